/- tidingskeep.Book: Bytes. -/
import Derived.Test.YtbndfejfhngeoaaBods
import Derived.Test.YtbndfejfhngeoaaLend
import Derived.Deep.RegionLaw
import Derived.Deep.DrawnRows
namespace Go.Proofs.Ytbndfejfhngeoaa
open Go.RowKit
attribute [local go_sem ↓] Go.wp_at_zero Go.wp_at_succ

/-- a Book of bytes alone: the slices bs that were told, their twins ss, what they said -/
def BookB (w : World) (base kb : Nat) (bs ss : List Value) (ls : List (List UInt8)) : Prop :=
  ∃ (A1 A2 : Option Addr) (c1 c2 : Nat), Blk w kb 44 #[.slice A1 bs.length c1, .slice A2 ss.length c2, .slice none 0 0, .slice none 0 0, .slice none 0 0, .slice none 0 0] ∧ base ≤ kb ∧
    w.ownsRow base 22 1 (.slice A1 bs.length c1) bs.length bs ∧ w.ownsRow base 22 1 (.slice A2 ss.length c2) ss.length ss ∧
    (∀ g, Value.ownBlock (.slice A1 0 0) = some g → Value.ownBlock (.slice A2 0 0) ≠ some g) ∧ Bods w base bs ls ∧ Bods w base ss ls ∧
    (∀ (i j : Nat) (u v : Value) (g : Nat), bs[i]? = some u → ss[j]? = some v → u.ownBlock = some g → v.ownBlock ≠ some g) ∧ bs.length ≤ 400
/-- the blocks that a Book's calls turn -/
def bookS (w : World) (base : Nat) (k : Nat) : Prop := base ≤ k ∧ ∃ cs, Blk w k 44 cs ∨ Blk w k 22 cs

theorem BookB.new (w : World) (base : Nat) (h : base ≤ w.heap.size) :
    BookB (w.alloc (.cells #[.slice none 0 0, .slice none 0 0, .slice none 0 0, .slice none 0 0, .slice none 0 0, .slice none 0 0] 44)) base w.heap.size [] [] [] :=
  ⟨none, none, 0, 0, Blk.new w _ _, h, World.ownsRow_nil _ _ _ _, World.ownsRow_nil _ _ _ _, by simp [Value.ownBlock], Bods.nil' _ _, Bods.nil' _ _, by simp, by simp⟩
theorem own_blk {w : World} {base : Nat} {e : TypeId} {size n c : Nat} {A : Option Addr} {xs : List Value} (h : w.ownsRow base e size (.slice A n c) n xs) {g : Nat} (hg : Value.ownBlock (.slice A 0 0) = some g) : base ≤ g ∧ ∃ cs, Blk w g e cs := by
  rcases h.2 with ⟨e', _⟩ | ⟨g', _, cur, e', hb, hh, _⟩
  · injection e' with e'; subst e'; cases hg
  · injection e' with e'; subst e'
    have : g' = g := by simpa [Value.ownBlock] using hg
    subst this
    exact ⟨hb, cur, hh⟩
theorem ownBlock_any (A : Option Addr) (n c : Nat) : Value.ownBlock (.slice A n c) = Value.ownBlock (.slice A 0 0) := by cases A <;> rfl
theorem BookB.kept {w w' : World} {S : Nat → Prop} {base kb : Nat} {bs ss : List Value} {ls : List (List UInt8)} (h : BookB w base kb bs ss ls) (hk : Kept S w w')
    (h1 : ∀ (g : Nat) (cs : Array Value), base ≤ g → Blk w g 44 cs → ¬ S g) (h2 : ∀ (g : Nat) (cs : Array Value), base ≤ g → Blk w g 22 cs → ¬ S g)
    (h3 : ∀ (i : Nat) (v : Value) (g : Nat), bs[i]? = some v → v.ownBlock = some g → ¬ S g) (h4 : ∀ (i : Nat) (v : Value) (g : Nat), ss[i]? = some v → v.ownBlock = some g → ¬ S g) : BookB w' base kb bs ss ls := by
  obtain ⟨A1, A2, c1, c2, hb, hkb, o1, o2, hap, b1, b2, hx, hn⟩ := h
  refine ⟨A1, A2, c1, c2, hk.blk hb (h1 kb _ hkb hb), hkb, hk.own o1 (fun g hg => ?_), hk.own o2 (fun g hg => ?_), hap, b1.kept hk h3, b2.kept hk h4, hx, hn⟩
  · rw [ownBlock_any] at hg
    obtain ⟨hl, cs, hcs⟩ := own_blk o1 hg
    exact h2 g cs hl hcs
  · rw [ownBlock_any] at hg
    obtain ⟨hl, cs, hcs⟩ := own_blk o2 hg
    exact h2 g cs hl hcs

/-- what a call of Bytes leaves -/
def BytesPost (base kb : Nat) (bs ss : List Value) (ls : List (List UInt8)) (v : Value) (l : List UInt8) (w : World) (e : Ending) (w' : World) : Prop :=
  e = .returned (.tuple #[]) ∧ Kept (bookS w base) w w' ∧
    ((bs.length < 400 ∧ ∃ t, (∀ g, t.ownBlock = some g → w.heap.size ≤ g) ∧ BookB w' base kb (bs ++ [v]) (ss ++ [t]) (ls ++ [l])) ∨ (400 ≤ bs.length ∧ BookB w' base kb bs ss ls))

theorem below_of_drew {W w2 : World} {B : Nat} (h : Below B W.drew w2) : Below B W w2 := ⟨h.os, h.tape, h.output, h.size, h.block⟩
theorem bytes_end {base kb c c1 c2 c3 c5 c6 : Nat} {bs ss : List Value} {ls : List (List UInt8)} {A A1 A2 A3 A5 A6 : Option Addr} {l : List UInt8} {w W w2 w3 : World} {o : Obj}
    (hB : BookB w base kb bs ss ls) (hbase : base ≤ w.heap.size) (ho : w.ownsRow base 5 1 (.slice A l.length c) l.length (bVs l))
    (h1 : ∀ (i : Nat) (v : Value) (g : Nat), bs[i]? = some v → v.ownBlock = some g → Value.ownBlock (.slice A l.length c) ≠ some g)
    (h2 : ∀ (i : Nat) (v : Value) (g : Nat), ss[i]? = some v → v.ownBlock = some g → Value.ownBlock (.slice A l.length c) ≠ some g) (hlt : bs.length < 400)
    (o1 : w.ownsRow base 22 1 (.slice A1 bs.length c1) bs.length bs) (o2 : w.ownsRow base 22 1 (.slice A2 ss.length c2) ss.length ss)
    (hb : Blk w kb 44 #[.slice A1 bs.length c1, .slice A2 ss.length c2, .slice none 0 0, .slice none 0 0, .slice none 0 0, .slice none 0 0]) (hkb : base ≤ kb)
    (hap : ∀ g, Value.ownBlock (.slice A1 0 0) = some g → Value.ownBlock (.slice A2 0 0) ≠ some g) (b1 : Bods w base bs ls) (b2 : Bods w base ss ls)
    (hx : ∀ (i j : Nat) (u v : Value) (g : Nat), bs[i]? = some u → ss[j]? = some v → u.ownBlock = some g → v.ownBlock ≠ some g)
    (hrest : Kept (fun k => k = kb ∨ Value.ownBlock (.slice A1 0 0) = some k) w W ∧ Blk W kb 44 #[.slice A3 (bs.length + 1) c3, .slice A2 ss.length c2, .slice none 0 0, .slice none 0 0, .slice none 0 0, .slice none 0 0] ∧
      W.ownsRow base 22 1 (.slice A3 (bs.length + 1) c3) (bs.length + 1) (bs ++ [.slice A l.length c]) ∧ (Value.ownBlock (.slice A3 0 0) = Value.ownBlock (.slice A1 0 0) ∨ Value.ownBlock (.slice A3 0 0) = some (w.heap.size + 1)))
    (hB5 : Below W.heap.size W w2) (hown5 : w2.ownsRow W.heap.size 5 1 (.slice A5 l.length c5) l.length (bVs l))
    (hend : Blk w3 kb 44 #[.slice A3 (bs.length + 1) c3, .slice A2 ss.length c2, .slice none 0 0, .slice none 0 0, .slice none 0 0, .slice none 0 0] ∧
      w3.ownsRow base 22 1 (.slice A6 (ss.length + 1) c6) (ss.length + 1) (ss ++ [.slice A5 l.length c5]) ∧ (w2.alloc o).grownBy w3 (Value.ownBlock (.slice A2 ss.length c2)) ∧
      (Value.ownBlock (.slice A6 (ss.length + 1) c6) = Value.ownBlock (.slice A2 ss.length c2) ∨ Value.ownBlock (.slice A6 (ss.length + 1) c6) = some (w2.alloc o).heap.size)) :
    Kept (bookS w base) w (w3.setCell ⟨kb, 1, none⟩ (.slice A6 (ss.length + 1) c6)) ∧
    ((bs.length < 400 ∧ ∃ t, (∀ g, t.ownBlock = some g → w.heap.size ≤ g) ∧ BookB (w3.setCell ⟨kb, 1, none⟩ (.slice A6 (ss.length + 1) c6)) base kb (bs ++ [.slice A l.length c]) (ss ++ [t]) (ls ++ [l])) ∨
      (400 ≤ bs.length ∧ BookB (w3.setCell ⟨kb, 1, none⟩ (.slice A6 (ss.length + 1) c6)) base kb bs ss ls)) := by
  obtain ⟨hkW, hbW, hoW, hat⟩ := hrest
  obtain ⟨hb3, ho6, hg6, hat6⟩ := hend
  have hsW := hkW.size
  have hs5 := hB5.size
  -- which blocks turn from w on
  have hkK : bookS w base kb := ⟨hkb, _, Or.inl hb⟩
  have hkA1 : ∀ g, Value.ownBlock (.slice A1 0 0) = some g → bookS w base g := fun g hg => by
    obtain ⟨h, cs, hcs⟩ := own_blk o1 hg; exact ⟨h, cs, Or.inr hcs⟩
  have hkA2 : ∀ g, Value.ownBlock (.slice A2 0 0) = some g → bookS w base g := fun g hg => by
    obtain ⟨h, cs, hcs⟩ := own_blk o2 hg; exact ⟨h, cs, Or.inr hcs⟩
  have kW : Kept (bookS w base) w W := hkW.mono (fun k _ h => by
    rcases h with h | h
    · subst h; exact hkK
    · exact hkA1 k h)
  have k2 : Kept (bookS w base) w w2 := kW.trans (Kept.of_below hB5)
  have k3 : Kept (bookS w base) w w3 := (k2.alloc o).trans (Kept.of_grown hg6 (fun k e _ => by rw [ownBlock_any] at e; exact hkA2 k e))
  have k4 : Kept (bookS w base) w (w3.setCell ⟨kb, 1, none⟩ (.slice A6 (ss.length + 1) c6)) := k3.setCell (Or.inr hkK) _
  have hbs : ∀ (g : Nat) (cs : Array Value), base ≤ g → Blk w g 5 cs → ¬ bookS w base g := by
    rintro g cs _ hcs ⟨_, cs', h | h⟩
    · exact (Blk.ne_ hcs h (by decide)) rfl
    · exact (Blk.ne_ hcs h (by decide)) rfl
  refine ⟨k4, Or.inl ⟨hlt, .slice A5 l.length c5, fun g hg => by have := (hown5.lt g hg).1; omega, A3, A6, c3, c6, ?_, hkb, ?_, ?_, ?_, ?_, ?_, ?_, ?_⟩⟩
  · have hb4 := hb3.set_ 1 (.slice A6 (ss.length + 1) c6)
    simp only [List.setIfInBounds_toArray, List.set_cons_zero, List.set_cons_succ] at hb4
    simpa using hb4
  · have kx : Kept (fun k => k = kb ∨ Value.ownBlock (.slice A2 0 0) = some k) W (w3.setCell ⟨kb, 1, none⟩ (.slice A6 (ss.length + 1) c6)) :=
      Kept.setCell (S := fun k => k = kb ∨ Value.ownBlock (.slice A2 0 0) = some k) (p := ⟨kb, 1, none⟩) (((Kept.of_below hB5).alloc o).trans (Kept.of_grown hg6 (fun k e _ => Or.inr (by rw [ownBlock_any] at e; exact e)))) (Or.inr (Or.inl rfl)) _
    have := kx.own hoW (fun g hg => by
      rintro (h | h)
      · exact own_ne_blk hoW hbW (by decide) (by rw [← h]; exact hg)
      · rw [ownBlock_any] at hg
        rcases hat with h' | h'
        · rw [h'] at hg; exact hap g hg h
        · rw [h'] at hg
          injection hg with hg
          have h3 := (own_blk o2 h).2
          obtain ⟨cs, hcs⟩ := h3
          have := hcs.lt
          omega)
    simpa using this
  · have kx : Kept (· = kb) w3 (w3.setCell ⟨kb, 1, none⟩ (.slice A6 (ss.length + 1) c6)) := Kept.setCell (S := (· = kb)) (p := ⟨kb, 1, none⟩) (Kept.refl _ w3) (Or.inr rfl) _
    have := kx.own ho6 (fun g hg e => own_ne_blk ho6 hb3 (by decide) (by rw [← e]; exact hg))
    simpa using this
  · intro g hg hg'
    rw [ownBlock_any, ownBlock_any A2] at hat6
    have hlt3 : g < W.heap.size := by
      have := hoW.lt g (by rw [ownBlock_any]; exact hg); exact this.2
    rcases hat6 with h6 | h6
    · rw [h6] at hg'
      rcases hat with h' | h'
      · rw [h'] at hg; exact hap g hg hg'
      · rw [h'] at hg
        injection hg with hg
        obtain ⟨cs, hcs⟩ := (own_blk o2 hg').2
        have := hcs.lt
        omega
    · rw [h6] at hg'
      injection hg' with hg'
      simp at hg'
      omega
  · exact (b1.snocV ho (fun i v g hv hg => h1 i v g hv hg)).keptT k4 hbs
  · have hbelow2 : Bods W base ss ls := b2.keptT kW hbs
    have h5 := hbelow2.snoc (l := l) hB5 hown5 (by omega)
    refine h5.keptT (S := fun k => k = kb ∨ Value.ownBlock (.slice A2 0 0) = some k) (Kept.setCell (S := fun k => k = kb ∨ Value.ownBlock (.slice A2 0 0) = some k) (p := ⟨kb, 1, none⟩) (((Kept.refl _ w2).alloc o).trans (Kept.of_grown hg6 (fun k e _ => Or.inr (by rw [ownBlock_any] at e; exact e)))) (Or.inr (Or.inl rfl)) _) ?_
    rintro g cs _ hcs (h | h)
    · subst h; exact (Blk.ne_ hcs (hbW.below hB5 hbW.lt) (by decide)) rfl
    · have o2W := hkW.own o2 (fun g hg => by
        rintro (h | h)
        · exact own_ne_blk o2 hb (by decide) (by rw [← h]; exact hg)
        · exact hap g h (by rw [ownBlock_any] at hg; exact hg))
      obtain ⟨_, cs', hcs'⟩ := own_blk ((Kept.of_below (S := fun _ => False) hB5).own o2W (fun _ _ => id)) h
      exact (Blk.ne_ hcs hcs' (by decide)) rfl
  · intro i j u v g hu hv hg
    rw [List.getElem?_append] at hu hv
    split at hu
    · rename_i hi
      split at hv
      · exact hx i j u v g hu hv hg
      · rw [List.getElem?_singleton] at hv
        split at hv
        · injection hv with hv; subst hv
          intro e
          have h3 := (hown5.lt g e).1
          have h4 := (b1.lt hu hg).2
          omega
        · cases hv
    · rw [List.getElem?_singleton] at hu
      split at hu
      · injection hu with hu; subst hu
        split at hv
        · intro e; exact h2 j v g hv e hg
        · rw [List.getElem?_singleton] at hv
          split at hv
          · injection hv with hv; subst hv
            intro e
            have h3 := (hown5.lt g e).1
            have h4 := (ho.lt g hg).2
            omega
          · cases hv
      · cases hu
  · simp; omega

set_option maxRecDepth 100000 in
set_option maxHeartbeats 1000000 in
theorem kbytes (base kb : Nat) (bs ss : List Value) (ls : List (List UInt8)) (A : Option Addr) (l : List UInt8) (c : Nat) (w : World) (hB : BookB w base kb bs ss ls) (hbase : base ≤ w.heap.size)
    (ho : w.ownsRow base 5 1 (.slice A l.length c) l.length (bVs l)) (h1 : ∀ (i : Nat) (v : Value) (g : Nat), bs[i]? = some v → v.ownBlock = some g → Value.ownBlock (.slice A l.length c) ≠ some g)
    (h2 : ∀ (i : Nat) (v : Value) (g : Nat), ss[i]? = some v → v.ownBlock = some g → Value.ownBlock (.slice A l.length c) ≠ some g) (hsm : l.length ≤ 140737488355328) :
    Calls Try.prog 22 #[.pointer (some ⟨kb, 0, none⟩), .slice A l.length c] w (BytesPost base kb bs ss ls (.slice A l.length c) l w) := by
  have hB0 := hB
  obtain ⟨A1, A2, c1, c2, hb, hkb, o1, o2, hap, b1, b2, hx, hn⟩ := hB
  have q0 := hb.cell 0
  simp at q0
  by_cases hlt : bs.length < 400
  · have hnk1 := own_ne_blk o1 hb (by decide)
    have hroom1 : (bs.length + 1) * 24 ≤ 140737488355328 := by omega
    have hss : ss.length = bs.length := by rw [b2.1, ← b1.1]
    have hroom2 : (ss.length + 1) * 24 ≤ 140737488355328 := by omega
    have Hx := Lib.hid hx
    have Hap := Lib.hid hap
    have H1 := Lib.hid h1
    have H2 := Lib.hid h2
    have Hss := Lib.hid hss
    have HB0 := Lib.hid hB0
    have hpb := hb.lt
    clear hx hap h1 h2 hss hB0
    go_enter Try.func22, Try.ntmps22
    go_wp2_with (first
      | (at_builtin
         refine wpList_app stBB rfl (.tmp 14) (.tmp 16) rfl rfl (o1.alloc _) rfl (by rfl) (Row.newAt rfl rfl) (by simp [Value.oneCell']) hroom1 (by simp; omega) ?_
         intro A3 c3 w1 hown1 hg1 hat1
         have hb1 := (hb.alloc _).grown hg1 (Ne.symm hnk1)
         have k0 := hb1.cell 0
         have k1 := hb1.frozen 0
         simp at k0))
    have hkW : Kept (fun k => k = kb ∨ Value.ownBlock (.slice A1 0 0) = some k) w (w1.setCell ⟨kb, 0, none⟩ (.slice A3 (bs.length + 1) c3)) :=
      Kept.setCell (S := fun k => k = kb ∨ Value.ownBlock (.slice A1 0 0) = some k) (p := ⟨kb, 0, none⟩) ((((Kept.refl _ w).alloc _)).trans (Kept.of_grown hg1 (fun k e _ => Or.inr (by rw [ownBlock_any] at e; exact e)))) (Or.inr (Or.inl rfl)) _
    have hbW := hb1.set_ 0 (.slice A3 (bs.length + 1) c3)
    simp only [List.setIfInBounds_toArray, List.set_cons_zero, List.set_cons_succ] at hbW
    have hoW1 : (w1.setCell ⟨kb, 0, none⟩ (.slice A3 (bs.length + 1) c3)).ownsRow base 22 1 (.slice A3 (bs.length + 1) c3) (bs.length + 1) (bs ++ [.slice A l.length c]) :=
      (Kept.of_grown (S := (· = kb)) (grown_set w1 kb 0 (.slice A3 (bs.length + 1) c3)) (fun k e _ => by injection e with e; exact e.symm)).own hown1 (fun g hg e => own_ne_blk hown1 hb1 (by decide) (by rw [← e]; exact hg))
    have hat : Value.ownBlock (.slice A3 0 0) = Value.ownBlock (.slice A1 0 0) ∨ Value.ownBlock (.slice A3 0 0) = some (w.heap.size + 1) := by
      rw [ownBlock_any, ownBlock_any A1] at hat1; simpa using hat1
    generalize w1.setCell ⟨kb, 0, none⟩ (.slice A3 (bs.length + 1) c3) = W at *
    have hrA : Row W A (bVs l) := hkW.row (Row.of_own ho) (Or.inr fun b off e => by
      subst e
      rintro (h | h)
      · exact own_ne_blk ho hb (by decide) (by rw [← h]; rfl)
      · obtain ⟨_, cs, hcs⟩ := own_blk o1 h
        exact own_ne_blk ho hcs (by decide) rfl)
    have o2W := hkW.own o2 (fun g hg => by
      rintro (h | h)
      · exact own_ne_blk o2 hb (by decide) (by rw [← h]; exact hg)
      · exact Hap.out g h (by rw [ownBlock_any] at hg; exact hg))
    have x1 := hbW.cell 1
    have x2 := hbW.frozen 1
    simp at x1
    have hsW := hkW.size
    have hnk2 := own_ne_blk o2W hbW (by decide)
    have hkbW := hbW.lt
    have Hrest := Lib.hid (And.intro hkW (And.intro hbW (And.intro hoW1 hat)))
    clear hkW hbW hoW1 hat hb1 hown1 hg1 hat1 k0 k1 q0
    go_region_law (first
      | (rw [if_pos (by rfl)]; go_simp; go_at_call 28; refine (ktwin A c l _ ?_ hsm).mono ?_; (exact hrA.drew); rintro e w2 ⟨A5, c5, rfl, hown5, hbel5⟩; have hB5 : Below W.heap.size W w2 := below_of_drew hbel5; have hbk2 := Hrest.out.2.1.below hB5 hkbW; have y1 := hbk2.cell 1; have y2 := hbk2.frozen 1; (simp at y1); have o22 := (Kept.of_below (S := fun _ => False) hB5).own o2W (fun _ _ => id); have HB5 := Lib.hid hB5; have Hown5 := Lib.hid hown5; have hs5 := hB5.size; have hkb2 : kb < w2.heap.size := (by omega); have hkn2 : ¬ kb = w2.heap.size := (by omega); clear hbel5 hB5 hown5 hbk2)
      | (refine step_app stBB (by rfl) (.tmp 24) (.tmp 27) (by rfl) (by rfl) (o22.alloc _) (by rfl) (news := [.slice A5 l.length c5]) (by rfl) (Row.newAt (by rfl) (by rfl)) (by simp [Value.oneCell']) hroom2 (by simp; omega) ?_; intro A6 c6 w3 hown6 hg6 hat6; have hbk3 := ((Hrest.out.2.1.below HB5.out hkbW).alloc _).grown hg6 (Ne.symm hnk2); have z1 := hbk3.cell 1; have z2 := hbk3.frozen 1; (simp at z1); have Hend := Lib.hid (And.intro hbk3 (And.intro hown6 (And.intro hg6 hat6))); clear hbk3 hown6 hg6 hat6))
    all_goals
      go_wp2
      go_end0
      refine ⟨rfl, ?_⟩
      exact bytes_end HB0.out hbase ho H1.out H2.out hlt o1 o2 hb hkb Hap.out b1 b2 Hx.out Hrest.out HB5.out Hown5.out Hend.out
  · have hl : bs.length = 400 := by omega
    go_enter Try.func22, Try.ntmps22
    clear h1 h2 hx b1 b2 hap o1 o2 ho
    have hge : 400 ≤ bs.length := by omega
    clear hl
    go_wp2
    go_end0
    exact ⟨rfl, Kept.refl _ _, Or.inr ⟨by omega, hB0⟩⟩
end Go.Proofs.Ytbndfejfhngeoaa
