/- Slices of bytes, each with a row of its own, no two in one block. Over any numbers of types. -/
import Derived.Test.YtbndfejfhngeoaaJoin
namespace Go.Proofs.Ytbndfejfhngeoaa
open Go.RowKit

theorem stBB : SliceT Try.prog 29 22 (.slice none 0 0) 1 24 :=
  sliceT_mk Try.underlying29 (by kernel_rfl) rfl (by omega) (by omega)
/-- no two of these slices lie in one block -/
def Apart (bs : List Value) : Prop := ∀ (i j : Nat) (u v : Value) (g : Nat), i < j → bs[i]? = some u → bs[j]? = some v → u.ownBlock = some g → v.ownBlock ≠ some g
/-- slices, each with a row of its own -/
def Bods (w : World) (base : Nat) (bs : List Value) (ls : List (List UInt8)) : Prop :=
  bs.length = ls.length ∧ (∀ (i : Nat) (v : Value) (l : List UInt8), bs[i]? = some v → ls[i]? = some l → ∃ A c, v = .slice A l.length c ∧ w.ownsRow base 5 1 (.slice A l.length c) l.length (bVs l)) ∧ Apart bs
theorem Bods.nil' (w : World) (base : Nat) : Bods w base [] [] := ⟨rfl, by simp, by intro i j u v g _ h; simp at h⟩
theorem Bods.lt {w : World} {base : Nat} {bs : List Value} {ls : List (List UInt8)} (h : Bods w base bs ls) {i : Nat} {v : Value} {g : Nat} (hv : bs[i]? = some v) (hg : v.ownBlock = some g) : base ≤ g ∧ g < w.heap.size := by
  have hi : i < ls.length := by rw [← h.1]; exact (List.getElem?_eq_some_iff.1 hv).1
  obtain ⟨A, c, rfl, ho⟩ := h.2.1 i v _ hv (List.getElem?_eq_getElem hi)
  exact ho.lt g hg
/-- their blocks are blocks of bytes -/
theorem Bods.blk {w : World} {base : Nat} {bs : List Value} {ls : List (List UInt8)} (h : Bods w base bs ls) {i : Nat} {v : Value} {g : Nat} (hv : bs[i]? = some v) (hg : v.ownBlock = some g) : ∃ cs, Blk w g 5 cs := by
  have hi : i < ls.length := by rw [← h.1]; exact (List.getElem?_eq_some_iff.1 hv).1
  obtain ⟨A, c, rfl, ho⟩ := h.2.1 i v _ hv (List.getElem?_eq_getElem hi)
  rcases ho.2 with ⟨e, _⟩ | ⟨g', _, cur, e, _, hh, _⟩
  · rw [e] at hg; cases hg
  · rw [e] at hg
    have : g' = g := by simpa [Value.ownBlock] using hg
    subst this
    exact ⟨cur, hh⟩
theorem Bods.kept {w w' : World} {S : Nat → Prop} {base : Nat} {bs : List Value} {ls : List (List UInt8)} (h : Bods w base bs ls) (hk : Kept S w w') (hs : ∀ (i : Nat) (v : Value) (g : Nat), bs[i]? = some v → v.ownBlock = some g → ¬ S g) : Bods w' base bs ls :=
  ⟨h.1, fun i v l hv hl => by
    obtain ⟨A, c, e, ho⟩ := h.2.1 i v l hv hl
    subst e
    exact ⟨A, c, rfl, hk.own ho (fun g hg => hs i _ g hv hg)⟩, h.2.2⟩
/-- nothing that is no block of bytes touches them -/
theorem Bods.keptT {w w' : World} {S : Nat → Prop} {base : Nat} {bs : List Value} {ls : List (List UInt8)} (h : Bods w base bs ls) (hk : Kept S w w') (hs : ∀ (g : Nat) (cs : Array Value), base ≤ g → Blk w g 5 cs → ¬ S g) : Bods w' base bs ls :=
  h.kept hk fun i v g hv hg => by
    obtain ⟨cs, hcs⟩ := h.blk hv hg
    exact hs g cs (h.lt hv hg).1 hcs
theorem Bods.snocV {w : World} {base : Nat} {bs : List Value} {ls : List (List UInt8)} {A : Option Addr} {c : Nat} {l : List UInt8} (h : Bods w base bs ls)
    (ho : w.ownsRow base 5 1 (.slice A l.length c) l.length (bVs l)) (hap : ∀ (i : Nat) (v : Value) (g : Nat), bs[i]? = some v → v.ownBlock = some g → Value.ownBlock (.slice A l.length c) ≠ some g) :
    Bods w base (bs ++ [.slice A l.length c]) (ls ++ [l]) := by
  refine ⟨by simp [h.1], fun i v m hv hm => ?_, fun i j u v g hij hu hv hg => ?_⟩
  · rw [List.getElem?_append] at hv hm
    rw [h.1] at hv
    split at hm
    · rename_i hi
      rw [if_pos hi] at hv
      exact h.2.1 i v m hv hm
    · rename_i hi
      rw [if_neg hi] at hv
      rw [List.getElem?_singleton] at hv hm
      split at hm
      · rename_i h0
        rw [if_pos h0] at hv
        injection hv with hv; injection hm with hm
        subst hv hm
        exact ⟨A, c, rfl, ho⟩
      · cases hm
  · rw [List.getElem?_append] at hu hv
    by_cases hj : j < bs.length
    · rw [if_pos hj] at hv
      rw [if_pos (by omega)] at hu
      exact h.2.2 i j u v g hij hu hv hg
    · rw [if_neg hj, List.getElem?_singleton] at hv
      split at hv
      · injection hv with hv
        subst hv
        rw [if_pos (by omega)] at hu
        exact hap i u g hu hg
      · cases hv
theorem Bods.snoc {w w' : World} {base : Nat} {bs : List Value} {ls : List (List UInt8)} {A : Option Addr} {c : Nat} {l : List UInt8} (h : Bods w base bs ls) (hb : Below w.heap.size w w')
    (ho : w'.ownsRow w.heap.size 5 1 (.slice A l.length c) l.length (bVs l)) (hbase : base ≤ w.heap.size) : Bods w' base (bs ++ [.slice A l.length c]) (ls ++ [l]) := by
  refine (h.kept (Kept.of_below (S := fun _ => False) hb) (fun _ _ _ _ _ => id)).snocV (own_base ho hbase) (fun i v g hv hg e => ?_)
  have h1 := h.lt hv hg
  have h2 := ho.lt g e
  omega
theorem Bods.base {w : World} {base base' : Nat} {bs : List Value} {ls : List (List UInt8)} (h : Bods w base bs ls) (hb : base' ≤ base) : Bods w base' bs ls :=
  ⟨h.1, fun i v l hv hl => by
    obtain ⟨A, c, e, ho⟩ := h.2.1 i v l hv hl
    exact ⟨A, c, e, own_base ho hb⟩, h.2.2⟩
theorem Bods.append {w : World} {base base' : Nat} {bs bs' : List Value} {ls ls' : List (List UInt8)} (h : Bods w base bs ls) (h' : Bods w base' bs' ls') (hb : base ≤ base')
    (hlt : ∀ (i : Nat) (v : Value) (g : Nat), bs[i]? = some v → v.ownBlock = some g → g < base') : Bods w base (bs ++ bs') (ls ++ ls') := by
  refine ⟨by simp [h.1, h'.1], fun i v l hv hl => ?_, fun i j u v g hij hu hv hg => ?_⟩
  · rw [List.getElem?_append] at hv hl
    rw [h.1] at hv
    split at hl
    · rename_i hi; rw [if_pos hi] at hv; exact h.2.1 i v l hv hl
    · rename_i hi; rw [if_neg hi] at hv; exact (h'.base hb).2.1 _ v l hv hl
  · rw [List.getElem?_append] at hu hv
    split at hv
    · rename_i hj; rw [if_pos (by omega)] at hu; exact h.2.2 i j u v g hij hu hv hg
    · rename_i hj
      split at hu
      · have h1 := hlt i u g hu hg
        intro h2
        have h3 := (h'.lt hv h2).1
        omega
      · exact h'.2.2 _ _ u v g (by omega) hu hv hg
theorem Bods.one {w : World} {base : Nat} {bs : List Value} {ls : List (List UInt8)} (h : Bods w base bs ls) : ∀ v ∈ bs, v.oneCell' = true := by
  intro v hv
  obtain ⟨i, hi, rfl⟩ := List.getElem_of_mem hv
  obtain ⟨A, c, e, _⟩ := h.2.1 i _ _ (List.getElem?_eq_getElem hi) (List.getElem?_eq_getElem (by rw [← h.1]; exact hi))
  rw [e]; rfl
theorem Bods.tail' {w : World} {base : Nat} {v : Value} {l : List UInt8} {bs : List Value} {ls : List (List UInt8)} (h : Bods w base (v :: bs) (l :: ls)) : Bods w base bs ls :=
  ⟨by simpa using h.1, fun i v l hv hl => h.2.1 (i + 1) v l hv hl, fun i j u v g hij hu hv hg => h.2.2 (i + 1) (j + 1) u v g (by omega) hu hv hg⟩
theorem Bods.parts {w : World} {base : Nat} : ∀ {bs : List Value} {ls : List (List UInt8)}, Bods w base bs ls → Parts w bs ls
  | [], [], _ => trivial
  | v :: bs, l :: ls, h => by
    obtain ⟨A, c, e, ho⟩ := h.2.1 0 v l rfl rfl
    obtain ⟨h1, h2⟩ := own_cap ho
    exact ⟨⟨A, c, e, h1, h2, Row.of_own ho⟩, h.tail'.parts⟩
  | [], _ :: _, h => by have := h.1; simp at this
  | _ :: _, [], h => by have := h.1; simp at this
end Go.Proofs.Ytbndfejfhngeoaa
