/- The plain law of StreamBack: frames that are laid one behind the other are told as they are. -/
import Derived.Test.YtbndfejfhngeoaaPieceLaw
namespace Go.Proofs.Ytbndfejfhngeoaa
open Go.RowKit

/-- the bytes of a length below 16384 -/
def lenB (n : Nat) : List UInt8 := if 128 ≤ n then [UInt8.ofNat (n % 128 + 128), UInt8.ofNat (n / 128)] else [UInt8.ofNat n]
/-- a frame's bytes -/
def encF (f : UInt8 × List UInt8) : List UInt8 := f.1 :: (lenB f.2.length ++ f.2)
def encA (fs : List (UInt8 × List UInt8)) : List UInt8 := fs.flatMap encF
def sizeF (f : UInt8 × List UInt8) : Nat := if 128 ≤ f.2.length then 3 + f.2.length else 2 + f.2.length
def mostF (fs : List (UInt8 × List UInt8)) : Nat := fs.foldl (fun m f => max m (sizeF f)) 2

theorem sizeF_eq (f : UInt8 × List UInt8) : (encF f).length = sizeF f := by unfold encF sizeF lenB; split <;> simp <;> omega
theorem gv_len (n : Nat) (hn : n < 16384) (r : List UInt8) : gv 0 0 (lenB n ++ r) = (n, (lenB n).length, 0) := by
  unfold lenB
  split
  · rename_i h
    have h1 : (UInt8.ofNat (n % 128 + 128)).toNat = n % 128 + 128 := by simp [UInt8.toNat_ofNat']; omega
    have h2 : (UInt8.ofNat (n / 128)).toNat = n / 128 := by simp [UInt8.toNat_ofNat']; omega
    simp only [List.cons_append, List.nil_append, gv, h1, h2]
    rw [if_pos (by omega), if_neg (by omega), if_pos (by omega), if_pos (by omega), if_neg (by omega)]
    simp only [List.length_cons, List.length_nil]
    congr 1
    omega
  · rename_i h
    have h1 : (UInt8.ofNat n).toNat = n := by simp [UInt8.toNat_ofNat']; omega
    simp only [List.cons_append, List.nil_append, gv, h1]
    rw [if_pos (by omega), if_pos (by omega), if_neg (by omega)]
    simp only [List.length_cons, List.length_nil]
    congr 1
    omega
theorem frameS_enc (most : Int) (f : UInt8 × List UInt8) (hn : f.2.length < 16384) (r : List UInt8) :
    frameS most (encF f ++ r) = if most < (sizeF f : Int) then .inl 149 else .inr (f.1, f.2, sizeF f) := by
  have hl := sizeF_eq f
  have hlb : 1 + (lenB f.2.length).length + f.2.length = sizeF f := by rw [← hl]; simp [encF]; omega
  have hs2 : 2 ≤ sizeF f := by unfold sizeF; split <;> omega
  have ht : (encF f ++ r).tail = lenB f.2.length ++ (f.2 ++ r) := by simp [encF]
  have hg : gv 0 0 (encF f ++ r).tail = (f.2.length, (lenB f.2.length).length, 0) := by rw [ht]; exact gv_len _ hn _
  rw [frameS_long (by simp [hl]; omega) hg]
  rw [if_neg (by omega), if_neg (by simp), hlb]
  split
  · rfl
  · rw [if_neg (by rw [List.length_append, hl]; omega)]
    have h1 : (encF f ++ r).take (sizeF f) = encF f := by rw [← hl]; exact List.take_left
    rw [h1]
    have h2 : (encF f).drop (1 + (lenB f.2.length).length) = f.2 := by
      show (f.1 :: (lenB f.2.length ++ f.2)).drop (1 + (lenB f.2.length).length) = f.2
      rw [Nat.add_comm, List.drop_succ_cons]; exact List.drop_left
    rw [h2]
    simp [encF]
theorem feedS_enc (most : Int) : ∀ (fs : List (UInt8 × List UInt8)), (∀ f ∈ fs, f.2.length < 16384) → (∀ f ∈ fs, (sizeF f : Int) ≤ most) → feedS most (encA fs) = (fs, [], 0)
  | [], _, _ => feedS_nil most
  | f :: fs, h1, h2 => by
    have ih := feedS_enc most fs (fun g hg => h1 g (by simp [hg])) (fun g hg => h2 g (by simp [hg]))
    have hs := h2 f (by simp)
    have hf : frameS most (encA (f :: fs)) = .inr (f.1, f.2, sizeF f) := by
      show frameS most (encF f ++ encA fs) = _
      rw [frameS_enc most f (h1 f (by simp)), if_neg (by omega)]
    rw [feedS_step hf]
    have hd : (encA (f :: fs)).drop (sizeF f) = encA fs := by
      show (encF f ++ encA fs).drop (sizeF f) = _
      rw [← sizeF_eq f]; exact List.drop_left
    rw [hd, ih]
theorem feedS_large (most : Int) : ∀ (fs : List (UInt8 × List UInt8)), (∀ f ∈ fs, f.2.length < 16384) → (∃ f ∈ fs, most < (sizeF f : Int)) → (feedS most (encA fs)).2.2 = 149
  | [], _, h => by obtain ⟨f, hf, _⟩ := h; simp at hf
  | f :: fs, h1, h2 => by
    by_cases hs : most < (sizeF f : Int)
    · have hf : frameS most (encA (f :: fs)) = .inl 149 := by
        show frameS most (encF f ++ encA fs) = _
        rw [frameS_enc most f (h1 f (by simp)), if_pos hs]
      rw [feedS_broken hf (by omega)]
    · have hf : frameS most (encA (f :: fs)) = .inr (f.1, f.2, sizeF f) := by
        show frameS most (encF f ++ encA fs) = _
        rw [frameS_enc most f (h1 f (by simp)), if_neg hs]
      rw [feedS_step hf]
      have hd : (encA (f :: fs)).drop (sizeF f) = encA fs := by
        show (encF f ++ encA fs).drop (sizeF f) = _
        rw [← sizeF_eq f]; exact List.drop_left
      rw [hd]
      refine feedS_large most fs (fun g hg => h1 g (by simp [hg])) ?_
      obtain ⟨g, hg, hgs⟩ := h2
      rcases List.mem_cons.1 hg with rfl | hg
      · exact absurd hgs hs
      · exact ⟨g, hg, hgs⟩
theorem foldl_max_ge (fs : List (UInt8 × List UInt8)) : ∀ (m : Nat), m ≤ fs.foldl (fun m f => max m (sizeF f)) m ∧ ∀ f ∈ fs, sizeF f ≤ fs.foldl (fun m f => max m (sizeF f)) m := by
  induction fs with
  | nil => intro m; simp
  | cons f fs ih =>
    intro m
    obtain ⟨h1, h2⟩ := ih (max m (sizeF f))
    refine ⟨by simp only [List.foldl_cons]; omega, fun g hg => ?_⟩
    simp only [List.foldl_cons]
    rcases List.mem_cons.1 hg with rfl | hg
    · omega
    · exact h2 g hg
theorem foldl_max_at (fs : List (UInt8 × List UInt8)) : ∀ (m : Nat), fs.foldl (fun m f => max m (sizeF f)) m = m ∨ ∃ f ∈ fs, sizeF f = fs.foldl (fun m f => max m (sizeF f)) m := by
  induction fs with
  | nil => intro m; simp
  | cons f fs ih =>
    intro m
    simp only [List.foldl_cons]
    rcases ih (max m (sizeF f)) with h | ⟨g, hg, h⟩
    · rw [h]
      by_cases hm : sizeF f ≤ m
      · exact Or.inl (by omega)
      · exact Or.inr ⟨f, by simp, by omega⟩
    · exact Or.inr ⟨g, by simp [hg], h⟩
theorem mostF_snoc (fs : List (UInt8 × List UInt8)) (f : UInt8 × List UInt8) : mostF (fs ++ [f]) = max (mostF fs) (sizeF f) := by simp [mostF]
theorem encA_snoc (fs : List (UInt8 × List UInt8)) (f : UInt8 × List UInt8) : encA (fs ++ [f]) = encA fs ++ encF f := by simp [encA]
/-- all are told -/
theorem back_all (fs : List (UInt8 × List UInt8)) (hs : ∀ f ∈ fs, f.2.length < 16384) (m : Int) (hm : (mostF fs : Int) ≤ m) : feedC m 0 [] (encA fs) = (fs, [], 0) := by
  have := feedS_enc m fs hs (fun f hf => by have := (foldl_max_ge fs 2).2 f hf; unfold mostF at hm; omega)
  simpa [feedC] using this
/-- one less is too few -/
theorem back_large (fs : List (UInt8 × List UInt8)) (hs : ∀ f ∈ fs, f.2.length < 16384) (hm : mostF fs ≠ 2) : (allS ((mostF fs : Int) - 1) 0 [] [encA fs]).2.2 = 149 := by
  rw [allS_flat _ [encA fs] [] (feedS_nil _)]
  simp only [List.nil_append, List.flatten_cons, List.flatten_nil, List.append_nil]
  refine feedS_large _ fs hs ?_
  rcases foldl_max_at fs 2 with h | ⟨f, hf, h⟩
  · exact absurd h hm
  · exact ⟨f, hf, by unfold mostF; omega⟩
end Go.Proofs.Ytbndfejfhngeoaa
