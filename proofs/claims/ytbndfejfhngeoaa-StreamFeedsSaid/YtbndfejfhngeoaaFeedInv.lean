/- What holds from chunk to chunk in the law StreamFeeds. -/
import Derived.Test.YtbndfejfhngeoaaRefHeld
import Derived.Test.YtbndfejfhngeoaaCloseAll
import Derived.Test.YtbndfejfhngeoaaStreamDead
namespace Go.Proofs.Ytbndfejfhngeoaa
open Go.RowKit

/-- the block of a slice's address -/
def blkOf (A : Option Addr) : Option Nat := Value.ownBlock (.slice A 0 0)

/-- the two Framers, the Book and the chunks, and that they lie apart -/
structure FdInv (w : World) (base pb rb kb : Nat) (most : Int) (Ac : Option Addr) (cc : Nat) (us : List Value) (h B : List UInt8) (told cd : Nat) (A A' : Option Addr) (bs ss : List Value) (ls : List (List UInt8)) (wr : World) : Prop where
  fr : ∃ c, Framer wr 0 pb most h cd A c
  rf : ∃ c, RFr wr rb most B told cd A' c
  bk : BookB wr base kb bs ss ls
  sz : ∀ l ∈ ls, l.length ≤ 3000
  apB : ∀ (i : Nat) (v : Value) (g : Nat), bs[i]? = some v → v.ownBlock = some g → blkOf A ≠ some g ∧ blkOf A' ≠ some g
  apS : ∀ (i : Nat) (v : Value) (g : Nat), ss[i]? = some v → v.ownBlock = some g → blkOf A ≠ some g ∧ blkOf A' ≠ some g
  apA : ∀ g, blkOf A = some g → blkOf A' ≠ some g
  row : wr.ownsRow w.heap.size 22 1 (.slice Ac us.length cc) us.length us
  rowB : ∀ g, blkOf Ac = some g → g < base
  bel : Below w.heap.size w wr
  lo : w.heap.size ≤ pb ∧ w.heap.size ≤ rb ∧ w.heap.size ≤ base ∧ base ≤ wr.heap.size ∧ pb < base ∧ rb < base
  loA : ∀ g, (blkOf A = some g ∨ blkOf A' = some g) → w.heap.size ≤ g

theorem Framer.kept {S : Nat → Prop} {w w' : World} {base pb : Nat} {most : Int} {h : List UInt8} {code : Nat} {A : Option Addr} {c : Nat} (hf : Framer w base pb most h code A c) (hk : Kept S w w') (h1 : ¬ S pb) (h2 : ∀ g, blkOf A = some g → ¬ S g) : Framer w' base pb most h code A c :=
  ⟨hk.blk hf.1 h1, hk.own hf.2 (fun g hg => h2 g (by rw [ownBlock_any] at hg; exact hg))⟩
theorem RFr.kept {S : Nat → Prop} {w w' : World} {rb : Nat} {most : Int} {B : List UInt8} {told code : Nat} {A : Option Addr} {c : Nat} (hf : RFr w rb most B told code A c) (hk : Kept S w w') (h1 : ¬ S rb) (h2 : ∀ g, blkOf A = some g → ¬ S g) : RFr w' rb most B told code A c :=
  ⟨hk.blk hf.1 h1, hk.own hf.2 (fun g hg => h2 g (by rw [ownBlock_any] at hg; exact hg))⟩

section
variable {w wr wr' : World} {base pb rb kb : Nat} {most : Int} {Ac : Option Addr} {cc : Nat} {us : List Value} {h B : List UInt8} {told cd : Nat} {A A' : Option Addr} {bs ss : List Value} {ls : List (List UInt8)}
/-- something else has turned -/
theorem FdInv.far (I : FdInv w base pb rb kb most Ac cc us h B told cd A A' bs ss ls wr) {S : Nat → Prop} (hk : Kept S wr wr') (hs : ∀ g, S g → wr.heap.size ≤ g) : FdInv w base pb rb kb most Ac cc us h B told cd A A' bs ss ls wr' := by
  have hb : Below wr.heap.size wr wr' := hk.below (Nat.le_refl _) (fun k hk' hS => by have := hs k hS; omega)
  have hk0 : Kept (fun _ => False) wr wr' := Kept.of_below hb
  obtain ⟨c, hf⟩ := I.fr
  obtain ⟨c', hr⟩ := I.rf
  have hsz := hb.size
  exact ⟨⟨c, hf.kept hk0 id (fun _ _ => id)⟩, ⟨c', hr.kept hk0 id (fun _ _ => id)⟩, I.bk.kept hk0 (fun _ _ _ _ => id) (fun _ _ _ _ => id) (fun _ _ _ _ _ => id) (fun _ _ _ _ _ => id), I.sz, I.apB, I.apS, I.apA,
    hk0.own I.row (fun _ _ => id), I.rowB, I.bel.trans (hb.mono (by have := I.lo; omega)), ⟨I.lo.1, I.lo.2.1, I.lo.2.2.1, by have := I.lo.2.2.2.1; omega, I.lo.2.2.2.2.1, I.lo.2.2.2.2.2⟩, I.loA⟩
theorem FdInv.below (I : FdInv w base pb rb kb most Ac cc us h B told cd A A' bs ss ls wr) (hb : Below wr.heap.size wr wr') : FdInv w base pb rb kb most Ac cc us h B told cd A A' bs ss ls wr' :=
  I.far (S := fun _ => False) (Kept.of_below hb) (fun _ h => h.elim)
/-- the Framer was fed -/
theorem FdInv.fed (I : FdInv w base pb rb kb most Ac cc us h B told cd A A' bs ss ls wr) {A2 : Option Addr} {c2 cd2 : Nat} {h2 : List UInt8} (hk : Kept (frS pb A) wr wr') (hf2 : Framer wr' 0 pb most h2 cd2 A2 c2) (hA2 : ∀ g, blkOf A2 = some g → wr.heap.size ≤ g ∨ (cd ≠ 0 ∧ A2 = A))
    {cd3 : Nat} (hcd : cd3 = cd) : ∃ c', (∃ c, Framer wr' 0 pb most h2 cd2 A2 c) ∧ RFr wr' rb most B told cd3 A' c' ∧ BookB wr' base kb bs ss ls ∧ wr'.ownsRow w.heap.size 22 1 (.slice Ac us.length cc) us.length us ∧ Below w.heap.size w wr' ∧
      (∀ (i : Nat) (v : Value) (g : Nat), bs[i]? = some v → v.ownBlock = some g → blkOf A2 ≠ some g) ∧ (∀ (i : Nat) (v : Value) (g : Nat), ss[i]? = some v → v.ownBlock = some g → blkOf A2 ≠ some g) ∧ (∀ g, blkOf A2 = some g → blkOf A' ≠ some g) ∧ (∀ g, blkOf A2 = some g → w.heap.size ≤ g) := by
  subst hcd
  obtain ⟨c, hf⟩ := I.fr
  obtain ⟨c', hr⟩ := I.rf
  have hbk0 := I.bk
  obtain ⟨A1, Aq, c1, cq, hbkb, hkb, o1, o2, hap, b1, b2, hx, hn⟩ := hbk0
  have hs := hk.size
  have hlo := I.lo
  have hA : ∀ g, blkOf A = some g → ∃ cs, Blk wr g 5 cs := fun g hg => (own_blk hf.2 hg).2
  have hAt : ∀ (g : Nat) (t : TypeId) (cs : Array Value), t ≠ 5 → t ≠ 59 → Blk wr g t cs → ¬ frS pb A g := by
    rintro g t cs h1 h2 hcs (hS | hS)
    · subst hS; exact (Blk.ne_ hcs hf.1 h2) rfl
    · obtain ⟨cs', hcs'⟩ := hA g hS
      exact (Blk.ne_ hcs hcs' h1) rfl
  have hAb : ∀ (i : Nat) (v : Value) (g : Nat), (bs[i]? = some v ∨ ss[i]? = some v) → v.ownBlock = some g → g < wr.heap.size ∧ ¬ frS pb A g := by
    intro i v g hv hg
    have hblk : ∃ cs, Blk wr g 5 cs := by
      rcases hv with hv | hv
      · exact b1.blk hv hg
      · exact b2.blk hv hg
    obtain ⟨cs, hcs⟩ := hblk
    refine ⟨hcs.lt, ?_⟩
    rintro (hS | hS)
    · subst hS; exact (Blk.ne_ hcs hf.1 (by decide)) rfl
    · rcases hv with hv | hv
      · exact (I.apB i v g hv hg).1 hS
      · exact (I.apS i v g hv hg).1 hS
  refine ⟨c', ⟨c2, hf2⟩, hr.kept hk (hAt rb _ _ (by decide) (by decide) hr.1) (fun g hg hS => ?_), I.bk.kept hk (fun g cs _ hcs => hAt g _ cs (by decide) (by decide) hcs) (fun g cs _ hcs => hAt g _ cs (by decide) (by decide) hcs) (fun i v g hv hg => (hAb i v g (Or.inl hv) hg).2) (fun i v g hv hg => (hAb i v g (Or.inr hv) hg).2), hk.own I.row (fun g hg => ?_), ?_, ?_, ?_, ?_, ?_⟩
  · rcases hS with hS | hS
    · subst hS
      exact own_ne_blk hr.2 hf.1 (by decide) (by rw [ownBlock_any]; exact hg)
    · exact I.apA g hS hg
  · obtain ⟨_, cs, hcs⟩ := own_blk I.row (g := g) (by rw [ownBlock_any] at hg; exact hg)
    exact hAt g _ cs (by decide) (by decide) hcs
  · refine I.bel.trans (hk.below (by omega) (fun j hj hS => ?_))
    rcases hS with hS | hS
    · omega
    · have := I.loA j (Or.inl hS); omega
  · intro i v g hv hg e
    rcases hA2 g e with h1 | ⟨_, h1⟩
    · have := (hAb i v g (Or.inl hv) hg).1; omega
    · subst h1; exact (I.apB i v g hv hg).1 e
  · intro i v g hv hg e
    rcases hA2 g e with h1 | ⟨_, h1⟩
    · have := (hAb i v g (Or.inr hv) hg).1; omega
    · subst h1; exact (I.apS i v g hv hg).1 e
  · intro g e e'
    rcases hA2 g e with h1 | ⟨_, h1⟩
    · have := (hr.2.lt g (by rw [ownBlock_any]; exact e')).2; omega
    · subst h1; exact I.apA g e e'
  · intro g e
    rcases hA2 g e with h1 | ⟨_, h1⟩
    · omega
    · subst h1; exact I.loA g (Or.inl e)
/-- both were fed -/
theorem FdInv.step {w1 w2 : World} (I : FdInv w base pb rb kb most Ac cc us h B told cd A A' bs ss ls wr) {A2 A2' : Option Addr} {c2 c2' cd2 told2 : Nat} {h2 B2 : List UInt8} {fs : List (UInt8 × List UInt8)} {no co : Nat} {Ao : Option Addr} {nb : List Value}
    (hk : Kept (frS pb A) wr w1) (hf2 : Framer w1 0 pb most h2 cd2 A2 c2) (hA2 : ∀ g, blkOf A2 = some g → wr.heap.size ≤ g ∨ (cd ≠ 0 ∧ A2 = A))
    (hor : w1.ownsRow wr.heap.size 54 2 (.slice Ao no co) no (frCells fs nb)) (hnb : Bods w1 wr.heap.size nb (fs.map (·.2))) (hap : ∀ (i : Nat) (v : Value) (g : Nat), nb[i]? = some v → v.ownBlock = some g → blkOf A2 ≠ some g)
    (hk2 : Kept (frS rb A') w1 w2) (hr2 : RFr w2 rb most B2 told2 cd2 A2' c2') (hA2' : ∀ g, blkOf A2' = some g → blkOf A' = some g ∨ w1.heap.size ≤ g) :
    FdInv w base pb rb kb most Ac cc us h2 B2 told2 cd2 A2 A2' bs ss ls w2 ∧ w2.ownsRow wr.heap.size 54 2 (.slice Ao no co) no (frCells fs nb) ∧ Bods w2 wr.heap.size nb (fs.map (·.2)) ∧
      (∀ (i : Nat) (v : Value) (g : Nat), nb[i]? = some v → v.ownBlock = some g → blkOf A2 ≠ some g ∧ blkOf A2' ≠ some g) := by
  obtain ⟨c', ⟨_, hfx⟩, hr1, hbk1, hrow1, hbel1, hb1, hs1, ha1, hl1⟩ := I.fed hk hf2 hA2 rfl
  have hs := hk.size
  have hs2 := hk2.size
  have hlo := I.lo
  have hA' : ∀ g, blkOf A' = some g → ∃ cs, Blk w1 g 5 cs := fun g hg => (own_blk hr1.2 hg).2
  have hAlt : ∀ g, blkOf A' = some g → g < wr.heap.size := fun g hg => by
    obtain ⟨c0, hr0⟩ := I.rf
    exact (hr0.2.lt g (by rw [ownBlock_any]; exact hg)).2
  have hAt : ∀ (g : Nat) (t : TypeId) (cs : Array Value), t ≠ 5 → t ≠ 39 → Blk w1 g t cs → ¬ frS rb A' g := by
    rintro g t cs h1 h2 hcs (hS | hS)
    · subst hS; exact (Blk.ne_ hcs hr1.1 h2) rfl
    · obtain ⟨cs', hcs'⟩ := hA' g hS
      exact (Blk.ne_ hcs hcs' h1) rfl
  obtain ⟨A1, Aq, c1, cq, hbkb, hkb, o1, o2, hapq, b1, b2, hx, hn⟩ := hbk1
  have hAb : ∀ (i : Nat) (v : Value) (g : Nat), (bs[i]? = some v ∨ ss[i]? = some v) → v.ownBlock = some g → g < w1.heap.size ∧ ¬ frS rb A' g := by
    intro i v g hv hg
    have hblk : ∃ cs, Blk w1 g 5 cs := by
      rcases hv with hv | hv
      · exact b1.blk hv hg
      · exact b2.blk hv hg
    obtain ⟨cs, hcs⟩ := hblk
    refine ⟨hcs.lt, ?_⟩
    rintro (hS | hS)
    · subst hS; exact (Blk.ne_ hcs hr1.1 (by decide)) rfl
    · rcases hv with hv | hv
      · exact (I.apB i v g hv hg).2 hS
      · exact (I.apS i v g hv hg).2 hS
  have hnbS : ∀ (i : Nat) (v : Value) (g : Nat), nb[i]? = some v → v.ownBlock = some g → ¬ frS rb A' g := by
    intro i v g hv hg
    have h1 := hnb.lt hv hg
    rintro (hS | hS)
    · have := hlo; omega
    · have := hAlt g hS; omega
  refine ⟨⟨⟨c2, hf2.kept hk2 (hAt pb _ _ (by decide) (by decide) hf2.1) (fun g hg hS => ?_)⟩, ⟨c2', hr2⟩, ?_, I.sz, ?_, ?_, ?_, hk2.own hrow1 (fun g hg => ?_), I.rowB, ?_, ?_, ?_⟩, ?_, hnb.kept hk2 hnbS, ?_⟩
  · rcases hS with hS | hS
    · subst hS
      exact own_ne_blk hf2.2 hr1.1 (by decide) (by rw [ownBlock_any]; exact hg)
    · exact ha1 g hg hS
  · have hbk1' : BookB w1 base kb bs ss ls := ⟨A1, Aq, c1, cq, hbkb, hkb, o1, o2, hapq, b1, b2, hx, hn⟩
    exact hbk1'.kept hk2 (fun g cs _ hcs => hAt g _ cs (by decide) (by decide) hcs) (fun g cs _ hcs => hAt g _ cs (by decide) (by decide) hcs) (fun i v g hv hg => (hAb i v g (Or.inl hv) hg).2) (fun i v g hv hg => (hAb i v g (Or.inr hv) hg).2)
  · intro i v g hv hg
    refine ⟨hb1 i v g hv hg, fun e => ?_⟩
    rcases hA2' g e with h1 | h1
    · exact (I.apB i v g hv hg).2 h1
    · have := (hAb i v g (Or.inl hv) hg).1; omega
  · intro i v g hv hg
    refine ⟨hs1 i v g hv hg, fun e => ?_⟩
    rcases hA2' g e with h1 | h1
    · exact (I.apS i v g hv hg).2 h1
    · have := (hAb i v g (Or.inr hv) hg).1; omega
  · intro g e e'
    rcases hA2' g e' with h1 | h1
    · exact ha1 g e h1
    · have := (hf2.2.lt g (by rw [ownBlock_any]; exact e)).2; omega
  · obtain ⟨_, cs, hcs⟩ := own_blk hrow1 (g := g) (by rw [ownBlock_any] at hg; exact hg)
    exact hAt g _ cs (by decide) (by decide) hcs
  · refine hbel1.trans (hk2.below (by have := hbel1.size; omega) (fun j hj hS => ?_))
    rcases hS with hS | hS
    · omega
    · have := I.loA j (Or.inr hS); omega
  · exact ⟨hlo.1, hlo.2.1, hlo.2.2.1, by omega, hlo.2.2.2.2.1, hlo.2.2.2.2.2⟩
  · rintro g (e | e)
    · exact hl1 g e
    · rcases hA2' g e with h1 | h1
      · exact I.loA g (Or.inr h1)
      · have := hbel1.size; omega
  · refine hk2.own hor (fun g hg => ?_)
    have h1 := hor.lt g hg
    rintro (hS | hS)
    · omega
    · have := hAlt g hS; omega
  · intro i v g hv hg
    refine ⟨hap i v g hv hg, fun e => ?_⟩
    have h3 := hnb.lt hv hg
    rcases hA2' g e with h1 | h1
    · have := hAlt g h1; omega
    · omega
/-- a body was told to the Book -/
theorem FdInv.book (I : FdInv w base pb rb kb most Ac cc us h B told cd A A' bs ss ls wr) {v : Value} {l : List UInt8} (hl : l.length ≤ 3000) (hv : ∀ g, v.ownBlock = some g → blkOf A ≠ some g ∧ blkOf A' ≠ some g)
    (hk : Kept (bookS wr base) wr wr') (hp : (bs.length < 400 ∧ ∃ t, (∀ g, t.ownBlock = some g → wr.heap.size ≤ g) ∧ BookB wr' base kb (bs ++ [v]) (ss ++ [t]) (ls ++ [l])) ∨ (400 ≤ bs.length ∧ BookB wr' base kb bs ss ls)) :
    ∃ bs2 ss2 ls2, FdInv w base pb rb kb most Ac cc us h B told cd A A' bs2 ss2 ls2 wr' ∧ (∀ (i : Nat) (u : Value), bs2[i]? = some u → bs[i]? = some u ∨ u = v) ∧ (∀ (i : Nat) (u : Value) (g : Nat), ss2[i]? = some u → u.ownBlock = some g → ss[i]? = some u ∨ wr.heap.size ≤ g) := by
  obtain ⟨c, hf⟩ := I.fr
  obtain ⟨c', hr⟩ := I.rf
  have hlo := I.lo
  have hs := hk.size
  have hT : ∀ (g : Nat) (t : TypeId) (cs : Array Value), t ≠ 44 → t ≠ 22 → Blk wr g t cs → ¬ bookS wr base g := by
    rintro g t cs h1 h2 hcs ⟨_, cs', h | h⟩
    · exact (Blk.ne_ hcs h h1) rfl
    · exact (Blk.ne_ hcs h h2) rfl
  have hA : ∀ g, blkOf A = some g → ¬ bookS wr base g := fun g hg => by obtain ⟨_, cs, hcs⟩ := own_blk hf.2 hg; exact hT g _ cs (by decide) (by decide) hcs
  have hA' : ∀ g, blkOf A' = some g → ¬ bookS wr base g := fun g hg => by obtain ⟨_, cs, hcs⟩ := own_blk hr.2 hg; exact hT g _ cs (by decide) (by decide) hcs
  have hAlt : ∀ g, (blkOf A = some g ∨ blkOf A' = some g) → g < wr.heap.size := by
    rintro g (e | e)
    · exact (hf.2.lt g (by rw [ownBlock_any]; exact e)).2
    · exact (hr.2.lt g (by rw [ownBlock_any]; exact e)).2
  have hfr : ∃ c, Framer wr' 0 pb most h cd A c := ⟨c, hf.kept hk (hT pb _ _ (by decide) (by decide) hf.1) hA⟩
  have hrf : ∃ c, RFr wr' rb most B told cd A' c := ⟨c', hr.kept hk (hT rb _ _ (by decide) (by decide) hr.1) hA'⟩
  have hrow := hk.own I.row (fun g hg hS => by have := I.rowB g (by rw [ownBlock_any] at hg; exact hg); have := hS.1; omega)
  have hbel := I.bel.trans (hk.below (by omega) (fun j hj hS => by have := hS.1; omega))
  have hlo' : w.heap.size ≤ pb ∧ w.heap.size ≤ rb ∧ w.heap.size ≤ base ∧ base ≤ wr'.heap.size ∧ pb < base ∧ rb < base := ⟨hlo.1, hlo.2.1, hlo.2.2.1, by omega, hlo.2.2.2.2.1, hlo.2.2.2.2.2⟩
  rcases hp with ⟨hlt, t, ht, hbk⟩ | ⟨hge, hbk⟩
  · refine ⟨bs ++ [v], ss ++ [t], ls ++ [l], ⟨hfr, hrf, hbk, ?_, ?_, ?_, I.apA, hrow, I.rowB, hbel, hlo', I.loA⟩, ?_, ?_⟩
    · intro m hm
      rcases List.mem_append.1 hm with hm | hm
      · exact I.sz m hm
      · simp at hm; subst hm; exact hl
    · intro i u g hu hg
      rw [List.getElem?_append] at hu
      split at hu
      · exact I.apB i u g hu hg
      · rw [List.getElem?_singleton] at hu
        split at hu
        · injection hu with hu; subst hu; exact hv g hg
        · cases hu
    · intro i u g hu hg
      rw [List.getElem?_append] at hu
      split at hu
      · exact I.apS i u g hu hg
      · rw [List.getElem?_singleton] at hu
        split at hu
        · injection hu with hu; subst hu
          have h1 := ht g hg
          exact ⟨fun e => by have := hAlt g (Or.inl e); omega, fun e => by have := hAlt g (Or.inr e); omega⟩
        · cases hu
    · intro i u hu
      rw [List.getElem?_append] at hu
      split at hu
      · exact Or.inl hu
      · rw [List.getElem?_singleton] at hu
        split at hu
        · injection hu with hu; exact Or.inr hu.symm
        · cases hu
    · intro i u g hu hg
      rw [List.getElem?_append] at hu
      split at hu
      · exact Or.inl hu
      · rw [List.getElem?_singleton] at hu
        split at hu
        · injection hu with hu; subst hu; exact Or.inr (ht g hg)
        · cases hu
  · exact ⟨bs, ss, ls, ⟨hfr, hrf, hbk, I.sz, I.apB, I.apS, I.apA, hrow, I.rowB, hbel, hlo', I.loA⟩, fun i u hu => Or.inl hu, fun i u g hu _ => Or.inl hu⟩
end
end Go.Proofs.Ytbndfejfhngeoaa
