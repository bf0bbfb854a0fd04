/- The walk of the law StreamFeeds. -/
import Derived.Test.YtbndfejfhngeoaaFeedInv
import Derived.Deep.RegionHeld3
import Derived.Deep.DrawnRows
namespace Go.Proofs.Ytbndfejfhngeoaa
open Go.RowKit
attribute [local go_sem ↓] Go.wp_at_zero Go.wp_at_succ

/-- what holds at the head of the law's loop -/
def FdRel (w : World) (base pb rb kb : Nat) (most : Int) (Ac : Option Addr) (cc : Nat) (us : List Value) (qs : List (List UInt8)) (k : Nat) (wr : World) : Prop :=
  ∃ (h B : List UInt8) (told cd : Nat) (A A' : Option Addr) (bs ss : List Value) (ls : List (List UInt8)), FdInv w base pb rb kb most Ac cc us h B told cd A A' bs ss ls wr ∧
    h = (feedS most (qs.take k).flatten).2.1 ∧ cd = (feedS most (qs.take k).flatten).2.2 ∧ (cd = 0 → B = (qs.take k).flatten ∧ told = (feedS most (qs.take k).flatten).1.length) ∧ B.length ≤ (qs.take k).flatten.length

/-- what holds at the head of the loop over the frames -/
def TellRel (w : World) (base pb rb kb : Nat) (most : Int) (Ac : Option Addr) (cc : Nat) (us : List Value) (h B : List UInt8) (told cd : Nat) (A A' : Option Addr) (X : Nat) (Ao : Option Addr) (no co : Nat) (fs : List (UInt8 × List UInt8)) (nb : List Value) (j : Nat) (wr : World) : Prop :=
  ∃ (bs ss : List Value) (ls : List (List UInt8)), FdInv w base pb rb kb most Ac cc us h B told cd A A' bs ss ls wr ∧ wr.ownsRow X 54 2 (.slice Ao no co) no (frCells fs nb) ∧ Bods wr X nb (fs.map (·.2)) ∧
    (∀ (i j' : Nat) (u v : Value) (g : Nat), j ≤ j' → bs[i]? = some u → nb[j']? = some v → u.ownBlock = some g → v.ownBlock ≠ some g) ∧
    (∀ (i j' : Nat) (u v : Value) (g : Nat), j ≤ j' → ss[i]? = some u → nb[j']? = some v → u.ownBlock = some g → v.ownBlock ≠ some g)
theorem tell_next {w wr wr' : World} {base pb rb kb : Nat} {most : Int} {Ac : Option Addr} {cc : Nat} {us : List Value} {h B : List UInt8} {told cd : Nat} {A A' : Option Addr} {X : Nat} {Ao : Option Addr} {no co : Nat} {fs : List (UInt8 × List UInt8)} {nb : List Value} {j : Nat} {bs ss : List Value} {ls : List (List UInt8)} {v : Value} {l : List UInt8}
    (hX : base ≤ X) (I : FdInv w base pb rb kb most Ac cc us h B told cd A A' bs ss ls wr) (hor : wr.ownsRow X 54 2 (.slice Ao no co) no (frCells fs nb)) (hnb : Bods wr X nb (fs.map (·.2)))
    (hA : ∀ (i : Nat) (v : Value) (g : Nat), nb[i]? = some v → v.ownBlock = some g → blkOf A ≠ some g ∧ blkOf A' ≠ some g)
    (h1 : ∀ (i j' : Nat) (u v : Value) (g : Nat), j ≤ j' → bs[i]? = some u → nb[j']? = some v → u.ownBlock = some g → v.ownBlock ≠ some g)
    (h2 : ∀ (i j' : Nat) (u v : Value) (g : Nat), j ≤ j' → ss[i]? = some u → nb[j']? = some v → u.ownBlock = some g → v.ownBlock ≠ some g) (hv : nb[j]? = some v) (hl : l.length ≤ 3000)
    {e : Ending} (hp : BytesPost base kb bs ss ls v l wr e wr') : TellRel w base pb rb kb most Ac cc us h B told cd A A' X Ao no co fs nb (j + 1) wr' := by
  obtain ⟨_, hk, hp⟩ := hp
  obtain ⟨bs2, ss2, ls2, I2, hb2, hs2⟩ := I.book hl (fun g hg => hA j v g hv hg) hk hp
  have hT : ∀ (g : Nat) (t : TypeId) (cs : Array Value), t ≠ 44 → t ≠ 22 → Blk wr g t cs → ¬ bookS wr base g := by
    rintro g t cs h1 h2 hcs ⟨_, cs', h | h⟩
    · exact (Blk.ne_ hcs h h1) rfl
    · exact (Blk.ne_ hcs h h2) rfl
  refine ⟨bs2, ss2, ls2, I2, hk.own hor (fun g hg => ?_), hnb.keptT hk (fun g cs _ hcs => hT g _ cs (by decide) (by decide) hcs), ?_, ?_⟩
  · obtain ⟨_, cs, hcs⟩ := own_blk hor (g := g) (by rw [ownBlock_any] at hg; exact hg)
    exact hT g _ cs (by decide) (by decide) hcs
  · intro i j' u v' g hj hu hv' hg
    rcases hb2 i u hu with hu | hu
    · exact h1 i j' u v' g (by omega) hu hv' hg
    · subst hu; exact hnb.2.2 j j' _ v' g (by omega) hv hv' hg
  · intro i j' u v' g hj hu hv' hg
    rcases hs2 i u g hu hg with hu | hu
    · exact h2 i j' u v' g (by omega) hu hv' hg
    · intro e'
      have := (hnb.lt hv' e').2
      omega

/-- what feeding one chunk more comes to, on both sides -/
theorem feed_more (most : Int) (qs : List (List UInt8)) (k : Nat) (q : List UInt8) (hq : qs[k]? = some q) : (qs.take (k + 1)).flatten = (qs.take k).flatten ++ q ∧
    feedS most ((qs.take k).flatten ++ q) = (if (feedS most (qs.take k).flatten).2.2 = 0 then ((feedS most (qs.take k).flatten).1 ++ (feedC most 0 (feedS most (qs.take k).flatten).2.1 q).1, (feedC most 0 (feedS most (qs.take k).flatten).2.1 q).2) else feedS most (qs.take k).flatten) := by
  refine ⟨flatten_take_succ hq, ?_⟩
  rw [feedS_app most _ _ q (Nat.le_refl _)]
  simp [feedC]

/-- bytes that lie apart from all of it were written -/
theorem FdInv.away {w wr wr' : World} {base pb rb kb : Nat} {most : Int} {Ac : Option Addr} {cc : Nat} {us : List Value} {h B : List UInt8} {told cd : Nat} {A A' : Option Addr} {bs ss : List Value} {ls : List (List UInt8)}
    (I : FdInv w base pb rb kb most Ac cc us h B told cd A A' bs ss ls wr) {S : Nat → Prop} (hk : Kept S wr wr')
    (hS : ∀ g, S g → w.heap.size ≤ g ∧ (∃ cs, Blk wr g 5 cs) ∧ blkOf A ≠ some g ∧ blkOf A' ≠ some g ∧ (∀ (i : Nat) (v : Value), bs[i]? = some v → v.ownBlock ≠ some g) ∧ (∀ (i : Nat) (v : Value), ss[i]? = some v → v.ownBlock ≠ some g)) :
    FdInv w base pb rb kb most Ac cc us h B told cd A A' bs ss ls wr' := by
  obtain ⟨c, hf⟩ := I.fr
  obtain ⟨c', hr⟩ := I.rf
  have hs := hk.size
  have hlo := I.lo
  have hT : ∀ (g : Nat) (t : TypeId) (cs : Array Value), t ≠ 5 → Blk wr g t cs → ¬ S g := by
    intro g t cs h1 hcs hg
    obtain ⟨_, ⟨cs', h'⟩, _⟩ := hS g hg
    exact (Blk.ne_ hcs h' h1) rfl
  exact ⟨⟨c, hf.kept hk (hT pb _ _ (by decide) hf.1) (fun g hg hg' => (hS g hg').2.2.1 hg)⟩, ⟨c', hr.kept hk (hT rb _ _ (by decide) hr.1) (fun g hg hg' => (hS g hg').2.2.2.1 hg)⟩,
    I.bk.kept hk (fun g cs _ hcs => hT g _ cs (by decide) hcs) (fun g cs _ hcs => hT g _ cs (by decide) hcs) (fun i v g hv hg hg' => (hS g hg').2.2.2.2.1 i v hv hg) (fun i v g hv hg hg' => (hS g hg').2.2.2.2.2 i v hv hg),
    I.sz, I.apB, I.apS, I.apA, hk.own I.row (fun g hg => by
      obtain ⟨_, cs, hcs⟩ := own_blk I.row (g := g) (by rw [ownBlock_any] at hg; exact hg)
      exact hT g _ cs (by decide) hcs), I.rowB, I.bel.trans (hk.below (by omega) (fun j hj hj' => by have := (hS j hj').1; omega)), ⟨hlo.1, hlo.2.1, hlo.2.2.1, by omega, hlo.2.2.2.2.1, hlo.2.2.2.2.2⟩, I.loA⟩

theorem fd_start {w w1 w2 : World} {most : Int} {Ac : Option Addr} {cc : Nat} {us : List Value} (hrow : w1.ownsRow w.heap.size 22 1 (.slice Ac us.length cc) us.length us) (hb1 : Below w.heap.size w w1)
    (hb2 : Below (w1.alloc (.cells #[.int .i64 most, .slice none 0 0, .int .i64 0] 59)).heap.size (w1.alloc (.cells #[.int .i64 most, .slice none 0 0, .int .i64 0] 59)) w2) :
    FdInv w (w2.heap.size + 1) w1.heap.size w2.heap.size (w2.heap.size + 1) most Ac cc us [] [] 0 0 none none [] [] []
      ((w2.alloc (.cells #[.int .i64 most, .slice none 0 0, .int .i64 0, .int .i64 0] 39)).alloc (.cells #[.slice none 0 0, .slice none 0 0, .slice none 0 0, .slice none 0 0, .slice none 0 0, .slice none 0 0] 44)) := by
  obtain ⟨hf, hbel⟩ := made hb2
  have hs1 := hb1.size
  have hs2 := hb2.size
  simp at hs2
  have hsz : (w2.alloc (.cells #[.int .i64 most, .slice none 0 0, .int .i64 0, .int .i64 0] 39)).heap.size = w2.heap.size + 1 := by simp
  have hbk := BookB.new (w2.alloc (.cells #[.int .i64 most, .slice none 0 0, .int .i64 0, .int .i64 0] 39)) (w2.heap.size + 1) (by simp)
  rw [hsz] at hbk
  have k12 : Kept (fun _ => False) w1 w2 := Kept.of_below (hbel)
  refine ⟨⟨0, ⟨(hf.1.alloc _).alloc _, World.ownsRow_nil _ _ _ _⟩⟩, ⟨0, ⟨(Blk.new w2 _ _).alloc _, World.ownsRow_nil _ _ _ _⟩⟩, hbk, by simp, by simp, by simp, by simp [blkOf, Value.ownBlock], ((k12.own hrow (fun _ _ => id)).alloc _).alloc _, ?_, ?_, ?_, by simp [blkOf, Value.ownBlock]⟩
  · intro g hg
    have := (hrow.lt g (by rw [ownBlock_any]; exact hg)).2
    omega
  · exact ((hb1.trans (hbel.mono hs1)).alloc (by omega) _).alloc (by simp; omega) _
  · simp; omega

/-- the reference's Feed, broken or not -/
def RAnyPost (rb : Nat) (A' : Option Addr) (most : Int) (cd : Nat) (B h q : List UInt8) (told : Nat) (w : World) (e : Ending) (w' : World) : Prop :=
  ∃ (Ao A2' : Option Addr) (co c2' told2 : Nat) (B2 : List UInt8), e = .returned (.tuple #[.slice Ao (feedC most cd h q).1.length co, .int .i64 ((feedC most cd h q).2.2 : Nat)]) ∧ FrRead w' Ao (feedC most cd h q).1 ∧
    RFr w' rb most B2 told2 (feedC most cd h q).2.2 A2' c2' ∧ (∀ g, blkOf A2' = some g → blkOf A' = some g ∨ w.heap.size ≤ g) ∧ Kept (frS rb A') w w' ∧ B2.length ≤ B.length + q.length ∧
    (cd = 0 → B2 = B ++ q ∧ told2 = (feedS most (B ++ q)).1.length)
theorem ref_any (rb c told cd : Nat) (A' : Option Addr) (most : Int) (B h q : List UInt8) (w : World) (hf : RFr w rb most B told cd A' c) (Aq : Option Addr) (cq : Nat) (hr : Row w Aq (bVs q)) (hsm : B.length + q.length ≤ 1099511627776)
    (hrel : cd = 0 → told = (feedS most B).1.length ∧ h = (feedS most B).2.1 ∧ (feedS most B).2.2 = 0) :
    Calls Try.prog 16 #[.pointer (some ⟨rb, 0, none⟩), .slice Aq q.length cq] w (RAnyPost rb A' most cd B h q told w) := by
  by_cases hc : cd = 0
  · subst hc
    obtain ⟨h1, h2, h3⟩ := hrel rfl
    have happ := feedS_app most _ B q (Nat.le_refl _)
    rw [if_pos h3, ← h2] at happ
    have hfc : feedC most 0 h q = feedS most (h ++ q) := by simp [feedC]
    refine (ref_feed rb c told A' most B q w hf Aq cq hr hsm (by rw [happ, h1]; simp)).mono ?_
    rintro e w' ⟨Ao, A2', co, c2', rfl, hfr, hrf, hloc, hk⟩
    have hd : (feedS most (B ++ q)).1.drop told = (feedC most 0 h q).1 := by rw [happ, h1, hfc]; simp
    have hl : (feedS most (B ++ q)).1.length - told = (feedC most 0 h q).1.length := by rw [happ, h1, hfc]; simp
    have hcode : (feedS most (B ++ q)).2.2 = (feedC most 0 h q).2.2 := by rw [happ, hfc]
    rw [hd] at hfr
    rw [hl, hcode]
    rw [hcode] at hrf
    exact ⟨Ao, A2', co, c2', _, B ++ q, rfl, hfr, hrf, hloc, hk, by simp, fun _ => ⟨rfl, rfl⟩⟩
  · have hfc : feedC most cd h q = ([], h, cd) := by simp [feedC, hc]
    refine (ref_broken rb c told cd A' most B q w hf hc Aq cq).mono ?_
    rintro e w' ⟨rfl, n, rfl⟩
    unfold RAnyPost
    rw [hfc]
    exact ⟨none, A', 0, c, told, B, rfl, ⟨[], Or.inl rfl, trivial⟩, hf, fun g hg => Or.inl hg, (Kept.refl _ w).drewN n, by omega, fun h => absurd h hc⟩

theorem feedS_len (most : Int) (b : List UInt8) : 2 * (feedS most b).1.length + (feedS most b).2.1.length ≤ b.length := feedL_len most (b.length + 1) b
/-- the Framer's state after the chunks Bk, one more chunk -/
theorem feedC_state {most : Int} {Bk h q : List UInt8} {cd : Nat} (hh : h = (feedS most Bk).2.1) (hcd : cd = (feedS most Bk).2.2) (hfm : feedS most (Bk ++ q) = (if (feedS most Bk).2.2 = 0 then ((feedS most Bk).1 ++ (feedC most 0 (feedS most Bk).2.1 q).1, (feedC most 0 (feedS most Bk).2.1 q).2) else feedS most Bk)) :
    (feedC most cd h q).2.1 = (feedS most (Bk ++ q)).2.1 ∧ (feedC most cd h q).2.2 = (feedS most (Bk ++ q)).2.2 := by
  subst hh hcd
  rw [hfm]
  by_cases h0 : (feedS most Bk).2.2 = 0
  · rw [if_pos h0, h0]; exact ⟨rfl, rfl⟩
  · rw [if_neg h0]; simp [feedC, h0]
/-- how much is held -/
theorem held_len {most : Int} {Bk h q B2 : List UInt8} {cd : Nat} (hh : h = (feedS most Bk).2.1) (hcd : cd = (feedS most Bk).2.2) (hfm : feedS most (Bk ++ q) = (if (feedS most Bk).2.2 = 0 then ((feedS most Bk).1 ++ (feedC most 0 (feedS most Bk).2.1 q).1, (feedC most 0 (feedS most Bk).2.1 q).2) else feedS most Bk))
    (hB2 : cd = 0 → B2 = Bk ++ q) (hcd2 : (feedC most cd h q).2.2 = 0 → cd = 0) :
    (if (feedC most cd h q).2.2 = 0 then ((feedS most B2).2.1.length : Int) else 0) = ((feedC most cd h q).2.1.length : Int) ∧ ((feedC most cd h q).2.2 = 0 → (feedS most B2).2.2 = 0) := by
  obtain ⟨h1, h2⟩ := feedC_state hh hcd hfm
  by_cases h0 : (feedC most cd h q).2.2 = 0
  · rw [if_pos h0, hB2 (hcd2 h0), h1]
    exact ⟨rfl, fun _ => by rw [← h2]; exact h0⟩
  · rw [if_neg h0, h1, feedS_broken_nil most _ _ (Nat.le_refl _) (by rw [← h2]; exact h0)]
    exact ⟨by simp, fun h => absurd h h0⟩
theorem feedC_zero {most : Int} {h q : List UInt8} {cd : Nat} (h0 : (feedC most cd h q).2.2 = 0) : cd = 0 := by
  unfold feedC at h0
  split at h0
  · assumption
  · exact h0

/-- behind the comparing: the lent bytes are written over; the frames are told to the Book next -/
theorem fd_after {w wr w3 w4 w5 w6 w7 : World} {base pb rb kb : Nat} {most : Int} {Ac : Option Addr} {cc : Nat} {us : List Value} {h B h2 B2 : List UInt8} {told cd told2 cd2 : Nat} {A A' A2 A2' : Option Addr} {bs ss : List Value} {ls : List (List UInt8)} {q : List UInt8} {Ao : Option Addr} {no co : Nat} {fs : List (UInt8 × List UInt8)} {nb : List Value}
    (I : FdInv w base pb rb kb most Ac cc us h B told cd A A' bs ss ls wr) (hg3 : wr.heap.size < w3.heap.size) (hs4 : w3.heap.size ≤ w4.heap.size)
    (hA2 : ∀ g, blkOf A2 = some g → w3.heap.size ≤ g ∨ (cd ≠ 0 ∧ A2 = A)) (hloc : ∀ g, blkOf A2' = some g → blkOf A' = some g ∨ w4.heap.size ≤ g)
    (I5 : FdInv w base pb rb kb most Ac cc us h2 B2 told2 cd2 A2 A2' bs ss ls w5) (hor : w5.ownsRow w3.heap.size 54 2 (.slice Ao no co) no (frCells fs nb)) (hnb : Bods w5 w3.heap.size nb (fs.map (·.2)))
    (hl5 : Lent w5 wr.heap.size q) (hb6 : Below w5.heap.size w5 w6) (hk7 : Kept (· = wr.heap.size) w6 w7) :
    TellRel w base pb rb kb most Ac cc us h2 B2 told2 cd2 A2 A2' w3.heap.size Ao no co fs nb 0 w7 := by
  obtain ⟨c, hf⟩ := I.fr
  obtain ⟨c', hr⟩ := I.rf
  obtain ⟨A1, Aq, c1, cq, hbkb, hkb, o1, o2, hap, b1, b2, hx, hn⟩ := I.bk
  have hlo := I.lo
  have I6 := I5.below hb6
  have hl6 : Lent w6 wr.heap.size q := hl5.kept (Kept.of_below (S := fun _ => False) hb6) id
  have hk06 : Kept (fun _ => False) w5 w6 := Kept.of_below hb6
  have I7 := I6.away hk7 (fun g e => by
    subst e
    refine ⟨by omega, (own_blk hl6 (g := wr.heap.size) rfl).2, fun e => ?_, fun e => ?_, fun i v hv e => ?_, fun i v hv e => ?_⟩
    · rcases hA2 _ e with h1 | ⟨_, h1⟩
      · omega
      · subst h1; have := (hf.2.lt _ (by rw [ownBlock_any]; exact e)).2; omega
    · rcases hloc _ e with h1 | h1
      · have := (hr.2.lt _ (by rw [ownBlock_any]; exact h1)).2; omega
      · omega
    · have := (b1.lt hv e).2; omega
    · have := (b2.lt hv e).2; omega)
  have hor6 := hk06.own hor (fun _ _ => id)
  have hnb6 := hnb.kept hk06 (fun _ _ _ _ _ => id)
  refine ⟨bs, ss, ls, I7, hk7.own hor6 (fun g hg e => ?_), hnb6.kept hk7 (fun i v g hv hg e => ?_), ?_, ?_⟩
  · have := (hor6.lt g hg).1; omega
  · have := (hnb6.lt hv hg).1; omega
  · intro i j' u v g _ hu hv hg e
    have h1 := (b1.lt hu hg).2
    have h2 := (hnb6.lt hv e).1
    omega
  · intro i j' u v g _ hu hv hg e
    have h1 := (b2.lt hu hg).2
    have h2 := (hnb6.lt hv e).1
    omega

theorem feedL_body (most : Int) : ∀ (n : Nat) (h : List UInt8), ∀ f ∈ (feedL most n h).1, f.2.length ≤ h.length
  | 0, h, f, hf => by simp [feedL] at hf
  | n + 1, h, f, hf => by
    unfold feedL at hf
    rcases hfs : frameS most h with c | ⟨x, b, k⟩
    · rw [hfs] at hf; simp only at hf; split at hf <;> simp at hf
    · have hk := frameS_inr hfs
      rw [hfs] at hf
      simp only [List.mem_cons] at hf
      rcases hf with rfl | hf
      · simp only; omega
      · have := feedL_body most n (h.drop k) f hf
        simp only [List.length_drop] at this; omega
theorem feedC_body (most : Int) (cd : Nat) (h q : List UInt8) : ∀ f ∈ (feedC most cd h q).1, f.2.length ≤ h.length + q.length := by
  intro f hf
  unfold feedC at hf
  split at hf
  · have := feedL_body most _ (h ++ q) f hf
    rwa [List.length_append] at this
  · simp at hf
end Go.Proofs.Ytbndfejfhngeoaa
