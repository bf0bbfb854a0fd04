/- tidingskeep.Book: closeBytes. -/
import Derived.Test.YtbndfejfhngeoaaLook
import Derived.Test.YtbndfejfhngeoaaMem3
namespace Go.Proofs.Ytbndfejfhngeoaa
open Go.RowKit

/-- own rows whose bytes are told by f -/
def BodsF (w : World) (base : Nat) (bs : List Value) (ls : List (List UInt8)) (f : Nat → List UInt8 → List UInt8) : Prop :=
  ∀ (i : Nat) (v : Value) (l : List UInt8), bs[i]? = some v → ls[i]? = some l → ∃ A c, v = .slice A l.length c ∧ w.ownsRow base 5 1 (.slice A l.length c) l.length (bVs (f i l))
theorem BodsF.kept {w w' : World} {S : Nat → Prop} {base : Nat} {bs : List Value} {ls : List (List UInt8)} {f : Nat → List UInt8 → List UInt8} (h : BodsF w base bs ls f) (hk : Kept S w w') (hs : ∀ (i : Nat) (v : Value) (g : Nat), bs[i]? = some v → v.ownBlock = some g → ¬ S g) : BodsF w' base bs ls f := by
  intro i v l hv hl
  obtain ⟨A, c, e, ho⟩ := h i v l hv hl
  subst e
  exact ⟨A, c, rfl, hk.own ho (fun g hg => hs i _ g hv hg)⟩
/-- the j-th byte of the k-th row is written -/
theorem BodsF.store {w : World} {base k j g c : Nat} {bs : List Value} {ls : List (List UInt8)} {f f' : Nat → List UInt8 → List UInt8} {l : List UInt8} (x : UInt8) (h : BodsF w base bs ls f) (hap : Apart bs)
    (hb : bs[k]? = some (.slice (some ⟨g, 0, none⟩) l.length c)) (hl : ls[k]? = some l) (hf : ∀ i m, i ≠ k → f' i m = f i m) (hfk : f' k l = (f k l).set j x) : BodsF (w.setCell ⟨g, j, none⟩ (bV x)) base bs ls f' := by
  intro i v m hv hm
  by_cases hi : i = k
  · subst hi
    rw [hb] at hv; rw [hl] at hm
    injection hv with hv; injection hm with hm
    subst hv hm
    obtain ⟨A, c', e, ho⟩ := h i _ _ hb hl
    injection e with e1 _ e2
    subst e1 e2
    refine ⟨_, _, rfl, ?_⟩
    have := (ho.stored j (bV x)).1
    rw [hfk]
    have he : (bVs (f i l)).set j (bV x) = bVs ((f i l).set j x) := by simp [bVs, List.map_set]
    rw [he] at this
    exact this
  · obtain ⟨A, c', e, ho⟩ := h i v m hv hm
    subst e
    refine ⟨A, c', rfl, ?_⟩
    rw [hf i m hi]
    refine (Kept.of_grown (S := (· = g)) (grown_set w g j (bV x)) (fun k e _ => by injection e with e; exact e.symm)).own ho (fun g' hg' e => ?_)
    subst e
    rcases Nat.lt_or_gt_of_ne hi with h1 | h1
    · exact hap i k _ _ g' h1 hv hb hg' rfl
    · exact hap k i _ _ g' h1 hb hv rfl hg'

/-- the k-th answer, written full -/
def fullB (k : Nat) (l : List UInt8) : List UInt8 := List.replicate l.length (UInt8.ofNat k)
/-- written full up to the k-th, that up to its j-th byte -/
def fillB (k j : Nat) (i : Nat) (l : List UInt8) : List UInt8 := if i < k then fullB i l else if i = k then List.replicate j (UInt8.ofNat k) ++ l.drop j else l
theorem fillB_zero : fillB 0 0 = fun _ l => l := by funext i l; simp [fillB]
theorem fillB_next (k : Nat) (ls : List (List UInt8)) (l : List UInt8) (hl : ls[k]? = some l) {w : World} {base : Nat} {bs : List Value} (h : BodsF w base bs ls (fillB k l.length)) : BodsF w base bs ls (fillB (k + 1) 0) := by
  intro i v m hv hm
  obtain ⟨A, c, e, ho⟩ := h i v m hv hm
  refine ⟨A, c, e, ?_⟩
  have : fillB k l.length i m = fillB (k + 1) 0 i m := by
    unfold fillB
    by_cases h1 : i < k
    · rw [if_pos h1, if_pos (by omega)]
    · by_cases h2 : i = k
      · subst h2
        rw [hl] at hm; injection hm with hm; subst hm
        rw [if_neg h1, if_pos rfl, if_pos (by omega)]
        simp [fullB]
      · rw [if_neg h1, if_neg h2, if_neg (by omega)]
        split <;> simp
  rw [← this]; exact ho
theorem fillB_set (k j : Nat) (l : List UInt8) (hj : j < l.length) : fillB k (j + 1) k l = (fillB k j k l).set j (UInt8.ofNat k) := by
  simp only [fillB, Nat.lt_irrefl, if_false, if_true]
  have hd : l.drop j = l[j] :: l.drop (j + 1) := List.drop_eq_getElem_cons hj
  rw [List.replicate_succ', List.append_assoc, List.set_append]
  simp
  rw [hd]; rfl
theorem byte_of (k : Nat) : Value.int .u8 ((k : Int) % 256) = bV (UInt8.ofNat k) := by simp [bV, UInt8.toNat_ofNat']

theorem byte_add (k c : Nat) : bV (UInt8.ofNat (k + c)) = Value.int .u8 (((k : Int) + (c : Int)) % 256) := by
  simp [bV, UInt8.toNat_ofNat']
/-- the Book's own cells and rows, while its answers are written -/
def BookR (w : World) (kb : Nat) (A1 : Option Addr) (c1 : Nat) (bs : List Value) : Prop :=
  w.cell? ⟨kb, 0, none⟩ = some (.slice A1 bs.length c1) ∧ Row w A1 bs
/-- where they lie: apart from the answers -/
def BookL (kb : Nat) (A1 : Option Addr) (bs : List Value) (B1 : Nat) : Prop :=
  kb < B1 ∧ (∀ b off, A1 = some ⟨b, off, none⟩ → b < B1) ∧ ∀ (i : Nat) (v : Value) (g : Nat), bs[i]? = some v → v.ownBlock = some g → g ≠ kb ∧ (∀ b off, A1 = some ⟨b, off, none⟩ → b ≠ g) ∧ g < B1
theorem BookR.kept {w w' : World} {S : Nat → Prop} {kb c1 : Nat} {A1 : Option Addr} {bs : List Value} (h : BookR w kb A1 c1 bs) (hk : Kept S w w') (h1 : ¬ S kb) (h2 : ∀ b off, A1 = some ⟨b, off, none⟩ → ¬ S b) : BookR w' kb A1 c1 bs :=
  ⟨hk.cell h.1 h1, hk.row h.2 (Or.inr h2)⟩
theorem BookB.bookR {w : World} {base kb : Nat} {bs ss : List Value} {ls : List (List UInt8)} (h : BookB w base kb bs ss ls) :
    ∃ A1 c1, BookR w kb A1 c1 bs ∧ BookL kb A1 bs w.heap.size ∧ BodsF w base bs ls (fillB 0 0) ∧ Apart bs ∧ bs.length = ls.length ∧ bs.length ≤ 400 := by
  obtain ⟨A1, A2, c1, c2, hb, hkb, o1, o2, hap, b1, b2, hx, hn⟩ := h
  have hA : ∀ b off, A1 = some ⟨b, off, none⟩ → ∃ cs, Blk w b 22 cs := fun b off e => by subst e; exact (own_blk o1 (g := b) rfl).2
  refine ⟨A1, c1, ⟨by simpa using hb.cell 0, Row.of_own o1⟩, ⟨hb.lt, fun b off e => by obtain ⟨cs, h⟩ := hA b off e; exact h.lt, fun i v g hv hg => ?_⟩, ?_, b1.2.2, b1.1, hn⟩
  · obtain ⟨cs, hcs⟩ := b1.blk hv hg
    refine ⟨Blk.ne_ hcs hb (by decide), fun b off e => ?_, hcs.lt⟩
    obtain ⟨cs', h'⟩ := hA b off e
    exact Blk.ne_ h' hcs (by decide)
  · rw [fillB_zero]; exact b1.2.1
theorem Kept.then_grown {S : Nat → Prop} {a w w' : World} {row : Option Nat} (h : Kept S a w) (hg : w.grownBy w' row) (hs : ∀ k, row = some k → k < a.heap.size → S k) : Kept S a w' :=
  ⟨hg.os.trans h.os, hg.tape.trans h.tape, hg.output.trans h.output, Nat.le_trans h.size hg.size, fun i hi hn => (hg.block i (Nat.lt_of_lt_of_le hi h.size) (fun e => hn (hs i e.symm hi))).trans (h.block i hi hn)⟩

/-- the k-th answer, grown -/
def grownB (k : Nat) (l : List UInt8) : List UInt8 := fullB k l ++ [UInt8.ofNat (k + 100), UInt8.ofNat (k + 101)]
/-- which blocks are written -/
def bsS (bs : List Value) (k : Nat) : Prop := ∃ (i : Nat) (v : Value), bs[i]? = some v ∧ v.ownBlock = some k
/-- what holds at the head of the loop that grows -/
def GrowRel (base kb : Nat) (A1 : Option Addr) (c1 : Nat) (bs : List Value) (ls : List (List UInt8)) (B1 : Nat) (w : World) (k : Nat) (grown : Value) (wr : World) : Prop :=
  ∃ (Ag : Option Addr) (ng cg : Nat) (gs : List Value), grown = .slice Ag ng cg ∧ ng = k ∧ gs.length = k ∧ wr.ownsRow B1 22 1 (.slice Ag ng cg) ng gs ∧ BookR wr kb A1 c1 bs ∧
    (∀ (i : Nat) (v : Value) (l : List UInt8), bs[i]? = some v → ls[i]? = some l → ∃ A c, v = .slice A l.length c ∧ l.length ≤ c ∧ c ≤ maxLen ∧ Row wr A (bVs (fullB i l))) ∧
    (∀ (i : Nat) (v : Value) (l : List UInt8), k ≤ i → bs[i]? = some v → ls[i]? = some l → ∃ A c, v = .slice A l.length c ∧ wr.ownsRow base 5 1 (.slice A l.length c) l.length (bVs (fullB i l))) ∧
    (∀ (i : Nat) (u v : Value) (l : List UInt8), gs[i]? = some u → bs[i]? = some v → ls[i]? = some l → ∃ Au cu, u = .slice Au (l.length + 2) cu ∧ wr.ownsRow base 5 1 (.slice Au (l.length + 2) cu) (l.length + 2) (bVs (grownB i l)) ∧ (u.ownBlock = v.ownBlock ∨ ∃ g, u.ownBlock = some g ∧ B1 ≤ g)) ∧
    B1 ≤ wr.heap.size ∧ Kept (bsS bs) w wr

theorem own_addr {w : World} {base : Nat} {e : TypeId} {size n c g : Nat} {A : Option Addr} {xs : List Value} (h : w.ownsRow base e size (.slice A n c) n xs) (hg : Value.ownBlock (.slice A n c) = some g) : A = some ⟨g, 0, none⟩ := by
  rcases h.2 with ⟨e', _⟩ | ⟨g', _, cur, e', _⟩
  · rw [e'] at hg; cases hg
  · injection e' with e'; subst e'
    have : g' = g := by simpa [Value.ownBlock] using hg
    rw [this]

theorem grow_mid {kb B1 k cg c' ng n : Nat} {A1 Ag Ak A' : Option Addr} {ck : Nat} {bs gs : List Value} {wr w1 w2 : World} {X1 X2 : Obj} (hL : BookL kb A1 bs B1) (hbk : bs[k]? = some (.slice Ak n ck))
    (hgr : wr.ownsRow B1 22 1 (.slice Ag ng cg) ng gs) (hg1 : (wr.alloc X1).grownBy w1 (Value.ownBlock (.slice Ak n ck))) (hat1 : Value.ownBlock (.slice A' (n + 1) c') = Value.ownBlock (.slice Ak n ck) ∨ Value.ownBlock (.slice A' (n + 1) c') = some (wr.alloc X1).heap.size)
    (hg2 : (w1.alloc X2).grownBy w2 (Value.ownBlock (.slice A' (n + 1) c'))) : w2.ownsRow B1 22 1 (.slice Ag ng cg) ng gs := by
  have k1 : Kept (fun j => Value.ownBlock (.slice Ak n ck) = some j) wr w1 := ((Kept.refl _ wr).alloc X1).then_grown hg1 (fun _ e _ => e)
  have k2 : Kept (fun j => Value.ownBlock (.slice Ak n ck) = some j) wr w2 := (k1.alloc X2).then_grown hg2 (by
    intro j e hj
    rcases hat1 with h | h
    · rw [h] at e; exact e
    · rw [h] at e; injection e with e; simp at e; omega)
  refine k2.own hgr (fun g hg e => ?_)
  have h1 := (hgr.lt g hg).1
  have h2 := (hL.2.2 k _ g hbk e).2.2
  omega
theorem grow_next {base kb c1 B1 k cg c' c'' cg' ng : Nat} {A1 Ag Ak A' A'' Ag' : Option Addr} {ck : Nat} {bs gs : List Value} {ls : List (List UInt8)} {l : List UInt8} {w wr w1 w2 w3 : World} {X1 X2 X3 : Obj}
    (hap : Apart bs) (hL : BookL kb A1 bs B1) (hwB : w.heap.size ≤ B1) (hbk : bs[k]? = some (.slice Ak l.length ck)) (hlk : ls[k]? = some l) (hng : ng = k) (hgl : gs.length = k)
    (hgr : wr.ownsRow B1 22 1 (.slice Ag ng cg) ng gs) (hR : BookR wr kb A1 c1 bs)
    (hrd : ∀ (i : Nat) (v : Value) (l : List UInt8), bs[i]? = some v → ls[i]? = some l → ∃ A c, v = .slice A l.length c ∧ l.length ≤ c ∧ c ≤ maxLen ∧ Row wr A (bVs (fullB i l)))
    (hown : ∀ (i : Nat) (v : Value) (l : List UInt8), k ≤ i → bs[i]? = some v → ls[i]? = some l → ∃ A c, v = .slice A l.length c ∧ wr.ownsRow base 5 1 (.slice A l.length c) l.length (bVs (fullB i l)))
    (hgs : ∀ (i : Nat) (u v : Value) (l : List UInt8), gs[i]? = some u → bs[i]? = some v → ls[i]? = some l → ∃ Au cu, u = .slice Au (l.length + 2) cu ∧ wr.ownsRow base 5 1 (.slice Au (l.length + 2) cu) (l.length + 2) (bVs (grownB i l)) ∧ (u.ownBlock = v.ownBlock ∨ ∃ g, u.ownBlock = some g ∧ B1 ≤ g))
    (hB1 : B1 ≤ wr.heap.size) (hK : Kept (bsS bs) w wr)
    (hok : wr.ownsRow base 5 1 (.slice Ak l.length ck) l.length (bVs (fullB k l)))
    (hg1 : (wr.alloc X1).grownBy w1 (Value.ownBlock (.slice Ak l.length ck))) (hat1 : Value.ownBlock (.slice A' (l.length + 1) c') = Value.ownBlock (.slice Ak l.length ck) ∨ Value.ownBlock (.slice A' (l.length + 1) c') = some (wr.alloc X1).heap.size)
    (hold1 : Row w1 Ak (bVs (fullB k l))) (hown1 : w1.ownsRow base 5 1 (.slice A' (l.length + 1) c') (l.length + 1) (bVs (fullB k l ++ [UInt8.ofNat (k + 100)])))
    (hg2 : (w1.alloc X2).grownBy w2 (Value.ownBlock (.slice A' (l.length + 1) c'))) (hat2 : Value.ownBlock (.slice A'' (l.length + 1 + 1) c'') = Value.ownBlock (.slice A' (l.length + 1) c') ∨ Value.ownBlock (.slice A'' (l.length + 1 + 1) c'') = some (w1.alloc X2).heap.size)
    (hold2 : Row w2 A' (bVs (fullB k l ++ [UInt8.ofNat (k + 100)]))) (hown2 : w2.ownsRow base 5 1 (.slice A'' (l.length + 1 + 1) c'') (l.length + 1 + 1) (bVs (grownB k l)))
    (hg3 : (w2.alloc X3).grownBy w3 (Value.ownBlock (.slice Ag ng cg))) (hown3 : w3.ownsRow B1 22 1 (.slice Ag' (ng + 1) cg') (ng + 1) (gs ++ [.slice A'' (l.length + 1 + 1) c''])) :
    GrowRel base kb A1 c1 bs ls B1 w (k + 1) (.slice Ag' (ng + 1) cg') w3 := by
  have hs1 := hg1.size
  have hs2 := hg2.size
  have hs3 := hg3.size
  simp at hs1 hs2 hs3
  have k1 : Kept (fun j => Value.ownBlock (.slice Ak l.length ck) = some j) wr w1 := ((Kept.refl _ wr).alloc X1).then_grown hg1 (fun _ e _ => e)
  have k2 : Kept (fun j => Value.ownBlock (.slice Ak l.length ck) = some j) wr w2 := (k1.alloc X2).then_grown hg2 (by
    intro j e hj
    rcases hat1 with h | h
    · rw [h] at e; exact e
    · rw [h] at e; injection e with e; simp at e; omega)
  have k3 : Kept (fun j => Value.ownBlock (.slice Ak l.length ck) = some j ∨ Value.ownBlock (.slice Ag ng cg) = some j) wr w3 := ((k2.mono (S' := fun j => Value.ownBlock (.slice Ak l.length ck) = some j ∨ Value.ownBlock (.slice Ag ng cg) = some j) (fun _ _ h => Or.inl h)).alloc X3).then_grown hg3 (fun _ e _ => Or.inr e)
  have hAk : ∀ j, Value.ownBlock (.slice Ak l.length ck) = some j → j ≠ kb ∧ (∀ b off, A1 = some ⟨b, off, none⟩ → b ≠ j) ∧ j < B1 := fun j hj => hL.2.2 k _ j hbk hj
  have hAg : ∀ j, Value.ownBlock (.slice Ag ng cg) = some j → B1 ≤ j ∧ j < wr.heap.size := fun j hj => hgr.lt j hj
  have hkl : k ≤ bs.length := Nat.le_of_lt (List.getElem?_eq_some_iff.1 hbk).1
  have hgsl : ∀ (i : Nat) (u : Value), (gs ++ [Value.slice A'' (l.length + 1 + 1) c''])[i]? = some u → (i < k ∧ gs[i]? = some u) ∨ (i = k ∧ u = .slice A'' (l.length + 1 + 1) c'') := by
    intro i u hu
    rw [List.getElem?_append] at hu
    split at hu
    · exact Or.inl ⟨by omega, hu⟩
    · rw [List.getElem?_singleton] at hu
      split at hu
      · injection hu with hu
        exact Or.inr ⟨by omega, hu.symm⟩
      · cases hu
  -- no other answer lies in the k-th one's block
  have hother : ∀ (i : Nat) (v : Value) (j : Nat), i ≠ k → bs[i]? = some v → v.ownBlock = some j → Value.ownBlock (.slice Ak l.length ck) ≠ some j := by
    intro i v j hi hv hj e
    rcases Nat.lt_or_gt_of_ne hi with h | h
    · exact hap i k _ _ j h hv hbk hj e
    · exact hap k i _ _ j h hbk hv e hj
  refine ⟨Ag', ng + 1, cg', gs ++ [.slice A'' (l.length + 1 + 1) c''], rfl, by omega, by simp [hgl], hown3, ?_, ?_, ?_, ?_, by omega, ?_⟩
  · refine hR.kept k3 ?_ (fun b off e => ?_)
    · rintro (h | h)
      · exact (hAk kb h).1 rfl
      · have := (hAg kb h).1; have := hL.1; omega
    · rintro (h | h)
      · exact (hAk b h).2.1 b off e rfl
      · have := (hAg b h).1; have := hL.2.1 b off e; omega
  · intro i v m hv hm
    obtain ⟨A, c, e, h1, h2, h3⟩ := hrd i v m hv hm
    by_cases hi : i = k
    · subst hi
      rw [hbk] at hv; injection hv with hv; rw [hlk] at hm; injection hm with hm
      subst hv hm
      injection e with e1 _ e2
      subst e1 e2
      refine ⟨Ak, ck, rfl, h1, h2, ?_⟩
      have r2 : Row w2 Ak (bVs (fullB i l)) := by
        rcases hat1 with h | h
        · rcases hold1 with hz | ⟨b, off, e, hz⟩
          · exact Or.inl hz
          · subst e
            have e2 := own_addr hown1 (g := b) (by rw [h]; rfl)
            have e3 := own_addr hok (g := b) rfl
            rw [e3, ← e2]
            have := hold2.take (bVs (fullB i l)).length
            rwa [bVs_append, List.take_left] at this
        · refine (Kept.of_grown (S := fun j => Value.ownBlock (.slice A' (l.length + 1) c') = some j) hg2 (fun _ e _ => e)).row (hold1.alloc X2) (Or.inr fun b off e => ?_)
          subst e
          intro hS
          rw [h] at hS
          injection hS with hS
          simp at hS
          have := (hAk b rfl).2.2
          omega
      refine (Kept.of_grown (S := fun j => Value.ownBlock (.slice Ag ng cg) = some j) hg3 (fun _ e _ => e)).row (r2.alloc X3) (Or.inr fun b off e hS => ?_)
      subst e
      have := (hAk b rfl).2.2
      have := (hAg b hS).1
      omega
    · refine ⟨A, c, e, h1, h2, k3.row h3 (Or.inr fun b off e' => ?_)⟩
      subst e e'
      rintro (h | h)
      · exact hother i _ b hi hv rfl h
      · have := (hAg b h).1; have := (hL.2.2 i _ b hv rfl).2.2; omega
  · intro i v m hki hv hm
    obtain ⟨A, c, e, ho⟩ := hown i v m (by omega) hv hm
    refine ⟨A, c, e, k3.own ho (fun g hg => ?_)⟩
    subst e
    rintro (h | h)
    · exact hother i _ g (by omega) hv hg h
    · have := (hAg g h).1; have := (hL.2.2 i _ g hv hg).2.2; omega
  · intro i u v m hu hv hm
    rcases hgsl i u hu with ⟨hi, hu'⟩ | ⟨hi, hu'⟩
    · obtain ⟨Au, cu, e, ho, hat⟩ := hgs i u v m hu' hv hm
      refine ⟨Au, cu, e, k3.own ho (fun g hg => ?_), hat⟩
      rintro (h | h)
      · subst e
        rcases hat with hat | ⟨g', hg', hge⟩
        · exact hother i v g (by omega) hv (by rw [← hat]; exact hg) h
        · rw [hg] at hg'; injection hg' with hg'
          have := (hAk g h).2.2; omega
      · have h5 := (own_blk hgr (g := g) (by rw [ownBlock_any] at h; exact h)).2
        obtain ⟨cs, hcs⟩ := h5
        exact own_ne_blk ho hcs (by decide) hg
    · subst hi hu'
      rw [hbk] at hv; injection hv with hv; rw [hlk] at hm; injection hm with hm
      subst hv hm
      refine ⟨A'', c'', rfl, ?_, ?_⟩
      · refine (Kept.of_grown (S := fun j => Value.ownBlock (.slice Ag ng cg) = some j) hg3 (fun _ e _ => e)).own (hown2.alloc X3) (fun g hg h => ?_)
        have kgr : Kept (fun j => Value.ownBlock (.slice Ak l.length ck) = some j) wr (w2.alloc X3) := k2.alloc X3
        have hgr2 := kgr.own hgr (fun g hg e => by have := (hAg g hg).1; have := (hAk g e).2.2; omega)
        obtain ⟨_, cs, hcs⟩ := own_blk hgr2 (g := g) (by rw [ownBlock_any] at h; exact h)
        exact own_ne_blk (hown2.alloc X3) hcs (by decide) hg
      · rcases hat2 with h | h
        · rcases hat1 with h' | h'
          · exact Or.inl (h.trans h')
          · exact Or.inr ⟨_, h.trans h', by simp; omega⟩
        · exact Or.inr ⟨_, h, by simp; omega⟩
  · refine ((hK.mono (S' := fun j => bsS bs j ∨ B1 ≤ j) (fun _ _ h => Or.inl h)).trans (k3.mono (fun j _ h => ?_))).mono (fun j hj h => ?_)
    · rcases h with h | h
      · exact Or.inl ⟨k, _, hbk, h⟩
      · exact Or.inr (hAg j h).1
    · rcases h with h | h
      · exact h
      · omega

set_option maxRecDepth 100000 in
set_option maxHeartbeats 2000000 in
theorem kclose (base kb : Nat) (bs ss : List Value) (ls : List (List UInt8)) (w : World) (hB : BookB w base kb bs ss ls) (hbase : base ≤ w.heap.size) (hsz : ∀ l ∈ ls, l.length ≤ 1099511627776) :
    Calls Try.prog 30 #[.pointer (some ⟨kb, 0, none⟩)] w fun e w' => e = .returned (.bool true) ∧ Kept (bsS bs) w w' := by
  obtain ⟨A1, c1, hR, hL, hF, hap, hlen, hn⟩ := hB.bookR
  have HL := Lib.hid hL
  clear hL
  have Hap := Lib.hid hap
  have Hlen := Lib.hid hlen
  clear hap hlen hB
  go_enter Try.func30, Try.ntmps30
  go_wp2
  go_loopw [3] (fun i wr => ∃ k : Nat, k ≤ bs.length ∧ i = .int .i64 (k : Int) ∧ BookR wr kb A1 c1 bs ∧ BodsF wr base bs ls (fillB k 0) ∧ Kept (bsS bs) w wr) (fun i _ => bs.length - (intOf i).toNat)
  case atStart => exact ⟨0, by omega, rfl, hR, hF, Kept.refl _ _⟩
  case round =>
    clear hR hF
    obtain ⟨k, hk, rfl, hR, hF, hK⟩ := hrel
    have q0 := hR.1
    by_cases hlt : k < bs.length
    · have hlt2 : k < ls.length := by rw [← Hlen.out]; exact hlt
      obtain ⟨b, off, rfl, hc1⟩ := hR.2.at' hlt
      obtain ⟨Ak, ck, hv, hok⟩ := hF k bs[k] ls[k] (List.getElem?_eq_getElem hlt) (List.getElem?_eq_getElem hlt2)
      have hbk : bs[k]? = some (.slice Ak ls[k].length ck) := by rw [List.getElem?_eq_getElem hlt, hv]
      have hlk : ls[k]? = some ls[k] := List.getElem?_eq_getElem hlt2
      have hck := own_cap hok
      generalize ls[k] = l at *
      have hll : l.length ≤ 9223372036854775807 := by have := hck.1; have := hck.2; simp only [maxLen] at *; omega
      have Hbk := Lib.hid hbk
      have Hlk := Lib.hid hlk
      clear hbk hlk hv hok hck hc1
      obtain ⟨wo, hwo⟩ : ∃ wo : World, wo = wr := ⟨_, rfl⟩
      subst hwo
      go_wp2
      clear q0
      go_loopw [4] (fun j wr => ∃ m : Nat, m ≤ l.length ∧ j = .int .i64 (m : Int) ∧ BookR wr kb (some ⟨b, off, none⟩) c1 bs ∧ BodsF wr base bs ls (fillB k m) ∧ Kept (bsS bs) w wr) (fun j _ => l.length - (intOf j).toNat)
      case atStart => exact ⟨0, by omega, rfl, hR, hF, hK⟩
      case round =>
        clear hR hF hK
        obtain ⟨m, hm, rfl, hR, hF, hK⟩ := hrel
        have q0 := hR.1
        have q1 : wr.cell? ⟨b, off + k, none⟩ = some (.slice Ak l.length ck) := by
          obtain ⟨b', off', e, h⟩ := hR.2.at' hlt
          injection e with e; injection e with e1 e2; subst e1 e2
          rw [h]
          have := Hbk.out
          rw [List.getElem?_eq_getElem hlt] at this
          exact this
        by_cases hlt3 : m < l.length
        · obtain ⟨Ak', ck', e, hok⟩ := hF k _ l Hbk.out Hlk.out
          injection e with e1 _ e2
          subst e1 e2
          obtain ⟨g, rfl⟩ : ∃ g, Ak = some ⟨g, 0, none⟩ := by
            rcases hok.2 with ⟨e, h0⟩ | ⟨g, cap, cur, e, _⟩
            · omega
            · injection e with e; exact ⟨g, e⟩
          have z1 := hok.cellAt m (by omega)
          have z2 := hok.frozenAt m
          have hfl : (fillB k m k l).length = l.length := by have := hok.1; rw [bVs_length] at this; omega
          rw [show (bVs (fillB k m k l))[m]? = some (bV ((fillB k m k l)[m]'(by omega))) by simp [bVs, show m < (fillB k m k l).length by omega]] at z1
          unfold bV at z1
          generalize ((fillB k m k l)[m]'(by omega)).toNat = y at z1
          have hst := Lib.hid (hF.store (f' := fillB k (m + 1)) (UInt8.ofNat k) Hap.out Hbk.out Hlk.out (fun i n hi => by simp [fillB, hi]) (fillB_set k m l hlt3))
          clear hok hfl
          go_wp2
          go_roundw
          case rel =>
            rw [byte_of]
            refine ⟨m + 1, by omega, by go_num, hR.kept (S := (· = g)) (Kept.setCell (S := (· = g)) (p := ⟨g, m, none⟩) (Kept.refl _ wr) (Or.inr rfl) _) (fun e => (HL.out.2.2 k _ g Hbk.out rfl).1 e.symm) (fun b' off' e => (HL.out.2.2 k _ g Hbk.out rfl).2.1 b' off' e), hst.out, hK.setCell (p := ⟨g, m, none⟩) (Or.inr ⟨k, _, Hbk.out, rfl⟩) _⟩
          case measure => simp [intOf]; omega
        · go_wp2
          go_roundw
          case rel =>
            obtain rfl : m = l.length := by omega
            exact ⟨k + 1, by omega, by go_num, hR, fillB_next k ls l Hlk.out hF, hK⟩
          case measure => simp [intOf]; omega
    · obtain rfl : k = bs.length := by omega
      have hfull : BodsF wr base bs ls (fun i l => fullB i l) := by
        intro i v l hv hl
        obtain ⟨A, c, e, ho⟩ := hF i v l hv hl
        have hi : i < bs.length := (List.getElem?_eq_some_iff.1 hv).1
        simp only [fillB, if_pos hi] at ho
        exact ⟨A, c, e, ho⟩
      have hrel0 : GrowRel base kb A1 c1 bs ls wr.heap.size w 0 (.slice none 0 0) wr := by
        refine ⟨none, 0, 0, [], rfl, rfl, rfl, World.ownsRow_nil _ _ _ _, hR, fun i v l hv hl => ?_, fun i v l _ hv hl => hfull i v l hv hl, by simp, Nat.le_refl _, hK⟩
        obtain ⟨A, c, e, ho⟩ := hfull i v l hv hl
        obtain ⟨h1, h2⟩ := own_cap ho
        exact ⟨A, c, e, h1, h2, Row.of_own ho⟩
      have Hrel0 := Lib.hid hrel0
      have hB1 : w.heap.size ≤ wr.heap.size := hK.size
      have HL1 := Lib.hid (show BookL kb A1 bs wr.heap.size from ⟨by have := HL.out.1; omega, fun b off e => by have := HL.out.2.1 b off e; omega, fun i v g hv hg => by obtain ⟨h1, h2, h3⟩ := HL.out.2.2 i v g hv hg; exact ⟨h1, h2, by omega⟩⟩)
      clear hrel0 hfull hF hR hK
      obtain ⟨W, hW⟩ : ∃ W : World, W = wr := ⟨_, rfl⟩
      subst hW
      go_wp2
      clear q0
      go_loopw [5, 6] (fun gr i wr => ∃ k : Nat, k ≤ bs.length ∧ i = .int .i64 (k : Int) ∧ GrowRel base kb A1 c1 bs ls W.heap.size w k gr wr) (fun _ i _ => bs.length - (intOf i).toNat)
      case atStart => exact ⟨0, by omega, rfl, Hrel0.out⟩
      case round =>
        clear Hrel0
        obtain ⟨k, hk, rfl, hrel⟩ := hrel
        obtain ⟨Ag, ng, cg, gs, rfl, hng, hgl, hgr, hR, hrd, hown, hgs, hBr, hK⟩ := hrel
        have q0 := hR.1
        by_cases hlt : k < bs.length
        · have hlt2 : k < ls.length := by rw [← Hlen.out]; exact hlt
          obtain ⟨b, off, rfl, hc1⟩ := hR.2.at' hlt
          obtain ⟨Ak, ck, hv, hok⟩ := hown k bs[k] ls[k] (Nat.le_refl _) (List.getElem?_eq_getElem hlt) (List.getElem?_eq_getElem hlt2)
          have hbk : bs[k]? = some (.slice Ak ls[k].length ck) := by rw [List.getElem?_eq_getElem hlt, hv]
          have hlk : ls[k]? = some ls[k] := List.getElem?_eq_getElem hlt2
          rw [hv] at hc1
          generalize ls[k] = l at *
          have Hng := Lib.hid hng
          have Hgl := Lib.hid hgl
          have Hbk := Lib.hid hbk
          have Hlk := Lib.hid hlk
          have Hrd := Lib.hid hrd
          have Hown := Lib.hid hown
          have Hgs := Lib.hid hgs
          have hngb : ng ≤ 400 := by omega
          have hsml : (l.length + 1 + 1) * 1 ≤ 140737488355328 := by have := hsz l (List.mem_of_getElem? hlk); omega
          have hs0 := hK.size
          have hroom : (ng + 1) * 24 ≤ 140737488355328 := by omega
          clear hng hgl hbk hlk hrd hown hgs hv
          go_wp2_with (first
            | (at_builtin
               refine wpList_app_old stB rfl (.tmp 58) (.tmp 62) rfl rfl (hok.alloc _) rfl (by rfl) (Row.newAt rfl rfl) (by simp [Value.oneCell']) (by omega) (by simp; omega) ?_
               intro A' c' w1 hown1 hg1 hat1 hold1
               have hs1 := hg1.size)
            | (at_builtin
               refine wpList_app_old stB rfl (.tmp 65) (.tmp 69) rfl rfl (hown1.alloc _) rfl (by rfl) (Row.newAt rfl rfl) (by simp [Value.oneCell']) (by omega) (by simp at hs1 ⊢; omega) ?_
               intro A'' c'' w2 hown2 hg2 hat2 hold2
               have hs2 := hg2.size)
            | (at_builtin
               refine wpList_app stBB rfl (.tmp 64) (.tmp 71) rfl rfl ((grow_mid HL1.out Hbk.out hgr hg1 hat1 hg2).alloc _) rfl (by rfl) (Row.newAt rfl rfl) (by simp [Value.oneCell']) hroom (by simp at hs1 hs2 ⊢; omega) ?_
               intro Ag' cg' w3 hown3 hg3 hat3))
          go_roundw
          case rel =>
            refine ⟨k + 1, by omega, by go_num, grow_next (X1 := _) (X2 := _) (X3 := _) Hap.out HL1.out hB1 Hbk.out Hlk.out Hng.out Hgl.out hgr hR Hrd.out Hown.out Hgs.out hBr hK hok hg1 hat1 hold1 ?_ hg2 hat2 ?_ ?_ hg3 hown3⟩
            · rw [bVs_append]; simp only [bVs, List.map_cons, List.map_nil, byte_add]; exact hown1
            · rw [bVs_append]; simp only [bVs, List.map_cons, List.map_nil, byte_add]; exact hold2
            · rw [grownB, bVs_append]; simp only [bVs, List.map_cons, List.map_nil, byte_add]; rw [List.append_assoc] at hown2; exact hown2
          case measure => simp [intOf]; omega
        · obtain rfl : k = bs.length := by omega
          subst hng
          have hrg := Row.of_own hgr
          have Hgl := Lib.hid hgl
          have Hrd := Lib.hid hrd
          have Hgs := Lib.hid hgs
          have HK := Lib.hid hK
          clear hgl hrd hgs hown hgr hK
          obtain ⟨V, hV⟩ : ∃ V : World, V = wr := ⟨_, rfl⟩
          subst hV
          go_wp2
          go_loop [8] (fun i => ∃ k : Nat, k ≤ bs.length ∧ i = .int .i64 (k : Int)) (fun i => bs.length - (intOf i).toNat)
          case atStart => exact ⟨0, by omega, rfl⟩
          case round =>
            obtain ⟨k, hk, rfl⟩ := hrel
            by_cases hlt : k < bs.length
            · have hlt2 : k < ls.length := by rw [← Hlen.out]; exact hlt
              have hlt3 : k < gs.length := by rw [Hgl.out]; exact hlt
              obtain ⟨b, off, rfl, hc1⟩ := hR.2.at' hlt
              obtain ⟨bg, offg, rfl, hc2⟩ := hrg.at' hlt3
              obtain ⟨Ak, ck, hv, h1, h2, hrk⟩ := Hrd.out k bs[k] ls[k] (List.getElem?_eq_getElem hlt) (List.getElem?_eq_getElem hlt2)
              obtain ⟨Au, cu, hu, hou, _⟩ := Hgs.out k gs[k] bs[k] ls[k] (List.getElem?_eq_getElem hlt3) (List.getElem?_eq_getElem hlt) (List.getElem?_eq_getElem hlt2)
              rw [hv] at hc1
              rw [hu] at hc2
              have hru := Row.of_own hou
              have hcu := own_cap hou
              have hll := hsz ls[k] (List.getElem_mem hlt2)
              clear hv hu hou hcu h1 h2
              generalize ls[k] = l at *
              have hk8 : k ≤ 400 := by omega
              go_wp2
              go_loop [10] (fun j => ∃ m : Nat, m ≤ l.length ∧ j = .int .i64 (m : Int)) (fun j => l.length - (intOf j).toNat)
              case atStart => exact ⟨0, by omega, rfl⟩
              case round =>
                obtain ⟨m, hm, rfl⟩ := hrel
                have hfl : (fullB k l).length = l.length := by simp [fullB]
                have hgl' : (grownB k l).length = l.length + 2 := by simp [grownB, fullB]
                by_cases hlt4 : m < l.length
                · obtain ⟨b3, off3, rfl, z1⟩ := hrk.at' (i := m) (by rw [bVs_length]; omega)
                  obtain ⟨b4, off4, rfl, z2⟩ := hru.at' (i := m) (by rw [bVs_length]; omega)
                  have e1 : (bVs (fullB k l))[m]'(by rw [bVs_length]; omega) = .int .u8 ((k : Int) % 256) := by
                    rw [byte_of]; simp [bVs, fullB]
                  have e2 : (bVs (grownB k l))[m]'(by rw [bVs_length]; omega) = .int .u8 ((k : Int) % 256) := by
                    rw [byte_of]; simp only [bVs, List.getElem_map, grownB]; rw [List.getElem_append_left (by omega)]; simp [fullB]
                  rw [e1] at z1
                  rw [e2] at z2
                  have hne : ((k : Int) % 256 != (k : Int) % 256) = false := by simp
                  have hmi : m < l.length + 2 := by omega
                  clear e1 e2 hfl hgl'
                  go_wp2
                  go_round
                  case rel => exact ⟨m + 1, by omega, by go_num⟩
                  case measure => simp [intOf]; omega
                · obtain rfl : m = l.length := by omega
                  obtain ⟨b4, off4, rfl, z2⟩ := hru.at' (i := l.length) (by rw [bVs_length]; omega)
                  obtain ⟨b5, off5, e5, z3⟩ := hru.at' (i := l.length + 1) (by rw [bVs_length]; omega)
                  injection e5 with e5; injection e5 with e5 e6; subst e5 e6
                  have e2 : (bVs (grownB k l))[l.length]'(by rw [bVs_length]; omega) = .int .u8 (((k : Int) + 100) % 256) := by
                    simp only [bVs, List.getElem_map, grownB]; rw [List.getElem_append_right (by omega)]; simp only [hfl, Nat.sub_self, List.getElem_cons_zero]; exact byte_add k 100
                  have e3 : (bVs (grownB k l))[l.length + 1]'(by rw [bVs_length]; omega) = .int .u8 (((k : Int) + 101) % 256) := by
                    simp only [bVs, List.getElem_map, grownB]; rw [List.getElem_append_right (by omega)]; simp only [hfl, show l.length + 1 - l.length = 1 by omega, List.getElem_cons_succ, List.getElem_cons_zero]; exact byte_add k 101
                  rw [e2] at z2
                  rw [e3] at z3
                  have hne1 : (((k : Int) + 100) % 256 != ((k : Int) + 100) % 256) = false := by simp
                  have hne2 : (((k : Int) + 101) % 256 != ((k : Int) + 101) % 256) = false := by simp
                  have hmi : l.length + 1 < l.length + 2 := by omega
                  clear e2 e3 hfl hgl'
                  go_wp2
                  go_round
                  case rel => exact ⟨k + 1, by omega, by go_num⟩
                  case measure => simp [intOf]; omega
            · go_wp2
              go_ret
              exact ⟨rfl, HK.out⟩
end Go.Proofs.Ytbndfejfhngeoaa
