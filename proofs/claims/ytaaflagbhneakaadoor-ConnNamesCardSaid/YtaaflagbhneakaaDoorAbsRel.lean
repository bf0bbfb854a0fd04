/- ABS: how trees and blocks lie in a world. -/
import Derived.Test.YtaaflagbhneakaaDoorAbs
import Derived.Below
import Derived.Laws.Sem
import Derived.Shelf.Unicode.ValidAny
namespace Go.Proofs.YtaaflagbhneakaaDoor
set_option linter.unusedSimpArgs false
set_option linter.unusedVariables false
open Go.RowKit

/-- cells that nobody writes any more: what they hold -/
abbrev Imm := Nat → Nat → Option Value
/-- a block of the run: its number in the world, the cells of an element, its capacity; 'none': no block (an empty row) -/
structure BI where
  b : Option Nat
  k : Nat
  cap : Nat
abbrev Bmap := Nat → Nat → Option BI

mutual
def tree1 : AVal → Bool
  | .int _ _ => true
  | .bool _ => true
  | .str _ => true
  | .nilp => true
  | .nilm => true
  | .nili => true
  | .lst _ xs => treeL xs
  | _ => false
def treeC : List AVal → Bool
  | [] => true
  | c :: cs => tree1 c && treeC cs
def treeL : List AVal → Bool
  | [] => true
  | .agg cs :: xs => treeC cs && treeL xs
  | x :: xs => tree1 x && treeL xs
end

mutual
def VR (I : Imm) (β : Bmap) : AVal → Value → Prop
  | .top, _ => True
  | .any, v => v.cells = #[v] ∧ v.oneCell' = true
  | .int k n, v => v = .int k n
  | .bool b, v => v = .bool b
  | .str l, v => v = .string ⟨l.toArray⟩ ∧ l.length ≤ 9223372036854775807
  | .nilp, v => v = .pointer none
  | .ref t o, v => ∃ b k c, β t 0 = some ⟨some b, k, c⟩ ∧ v = .pointer (some ⟨b, o, none⟩)
  | .eref t g i o, v => ∃ b k c, β t g = some ⟨some b, k, c⟩ ∧ v = .pointer (some ⟨b, i * k + o, none⟩)
  | .iptr cs o, v => ∃ b off, v = .pointer (some ⟨b, off + o, none⟩) ∧ CR I β cs b off ∧ treeC cs = true
  | .lst x xs, v => ∃ A cap, v = .slice A xs.length cap ∧ xs.length ≤ cap ∧ cap ≤ 9223372036854775807 ∧ (x = true → cap = xs.length) ∧ (xs = [] ∨ ∃ b off k, A = some ⟨b, off, none⟩ ∧ 0 < k ∧ LR I β k xs b off) ∧ treeL xs = true
  | .sl t g lo n, v => ∃ bi, β t g = some bi ∧ lo + n ≤ bi.cap ∧ bi.cap ≤ 9223372036854775807 ∧ ((∃ b, bi.b = some b ∧ v = .slice (some ⟨b, lo * bi.k, none⟩) n (bi.cap - lo)) ∨ (bi.b = none ∧ bi.cap = 0 ∧ ∃ A, v = .slice A 0 0) ∨ (0 < lo ∧ lo = bi.cap ∧ n = 0 ∧ ∃ A, v = .slice A 0 0))
  | .agg cs, v => ∃ us, v = .agg us ∧ VRs I β cs us.toList
  | .tup vs, v => ∃ us, v = .tuple us ∧ VRs I β vs us.toList
  | .fn f caps, v => ∃ us, v = .func (.func f) #[] us ∧ VRs I β caps us.toList
  | .nilm, v => v = .map none
  | .map t, v => ∃ b k c, β t 0 = some ⟨some b, k, c⟩ ∧ v = .map (some b)
  | .nili, v => v = .nilIface
  | .iface t x, v => ∃ u, v = .iface t u ∧ VR I β x u
  | .pan _, _ => False
def VRs (I : Imm) (β : Bmap) : List AVal → List Value → Prop
  | [], vs => vs = []
  | x :: xs, vs => ∃ v vs', vs = v :: vs' ∧ VR I β x v ∧ VRs I β xs vs'
def CR (I : Imm) (β : Bmap) : List AVal → Nat → Nat → Prop
  | [], _, _ => True
  | c :: cs, b, off => (∃ u, I b off = some u ∧ VR I β c u) ∧ CR I β cs b (off + 1)
def LR (I : Imm) (β : Bmap) (k : Nat) : List AVal → Nat → Nat → Prop
  | [], _, _ => True
  | .agg cs :: xs, b, off => (cs.length = k ∧ CR I β cs b off) ∧ LR I β k xs b (off + k)
  | x :: xs, b, off => (1 = k ∧ ∃ u, I b off = some u ∧ VR I β x u) ∧ LR I β k xs b (off + k)
end

def Imm.le (I I' : Imm) : Prop := ∀ b o u, I b o = some u → I' b o = some u
def Bmap.le (β β' : Bmap) : Prop := ∀ t g bi, β t g = some bi → β' t g = some bi
theorem Imm.le.refl (I : Imm) : I.le I := fun _ _ _ h => h
theorem Bmap.le.refl (β : Bmap) : β.le β := fun _ _ _ h => h
theorem Imm.le.trans {I J K : Imm} (h : I.le J) (h' : J.le K) : I.le K := fun b o u e => h' b o u (h b o u e)
theorem Bmap.le.trans {I J K : Bmap} (h : I.le J) (h' : J.le K) : I.le K := fun b o u e => h' b o u (h b o u e)

mutual
theorem VR.mono {I I' : Imm} {β β' : Bmap} (hI : I.le I') (hβ : β.le β') : ∀ (x : AVal) (v : Value), VR I β x v → VR I' β' x v
  | .top, _, _ => by simp only [VR]
  | .pan _, _, h => by simp only [VR] at h
  | .nili, _, h => by simpa only [VR] using h
  | .iface t x, _, h => by
    simp only [VR] at h ⊢
    obtain ⟨u, h1, h2⟩ := h
    exact ⟨u, h1, VR.mono hI hβ x u h2⟩
  | .any, _, h => by simpa only [VR] using h
  | .int _ _, _, h => by simpa only [VR] using h
  | .bool _, _, h => by simpa only [VR] using h
  | .str _, _, h => by simpa only [VR] using h
  | .nilp, _, h => by simpa only [VR] using h
  | .nilm, _, h => by simpa only [VR] using h
  | .ref t o, _, h => by
    simp only [VR] at h ⊢
    obtain ⟨b, k, c, h1, h2⟩ := h
    exact ⟨b, k, c, hβ _ _ _ h1, h2⟩
  | .eref t g i o, _, h => by
    simp only [VR] at h ⊢
    obtain ⟨b, k, c, h1, h2⟩ := h
    exact ⟨b, k, c, hβ _ _ _ h1, h2⟩
  | .map t, _, h => by
    simp only [VR] at h ⊢
    obtain ⟨b, k, c, h1, h2⟩ := h
    exact ⟨b, k, c, hβ _ _ _ h1, h2⟩
  | .iptr cs o, _, h => by
    simp only [VR] at h ⊢
    obtain ⟨b, off, h1, h2, h3⟩ := h
    exact ⟨b, off, h1, CR.mono hI hβ cs b off h2, h3⟩
  | .lst x xs, _, h => by
    simp only [VR] at h ⊢
    obtain ⟨A, cap, h1, h2, h3, h4, h5, h6⟩ := h
    refine ⟨A, cap, h1, h2, h3, h4, ?_, h6⟩
    rcases h5 with h5 | ⟨b, off, k, e, hk, h5⟩
    · exact Or.inl h5
    · exact Or.inr ⟨b, off, k, e, hk, LR.mono hI hβ k xs b off h5⟩
  | .sl t g lo n, _, h => by
    simp only [VR] at h ⊢
    obtain ⟨bi, h1, h2⟩ := h
    exact ⟨bi, hβ _ _ _ h1, h2⟩
  | .agg cs, _, h => by
    simp only [VR] at h ⊢
    obtain ⟨us, h1, h2⟩ := h
    exact ⟨us, h1, VRs.mono hI hβ cs us.toList h2⟩
  | .tup cs, _, h => by
    simp only [VR] at h ⊢
    obtain ⟨us, h1, h2⟩ := h
    exact ⟨us, h1, VRs.mono hI hβ cs us.toList h2⟩
  | .fn f cs, _, h => by
    simp only [VR] at h ⊢
    obtain ⟨us, h1, h2⟩ := h
    exact ⟨us, h1, VRs.mono hI hβ cs us.toList h2⟩
theorem VRs.mono {I I' : Imm} {β β' : Bmap} (hI : I.le I') (hβ : β.le β') : ∀ (xs : List AVal) (vs : List Value), VRs I β xs vs → VRs I' β' xs vs
  | [], _, h => by simpa only [VRs] using h
  | x :: xs, _, h => by
    simp only [VRs] at h ⊢
    obtain ⟨v, vs', h1, h2, h3⟩ := h
    exact ⟨v, vs', h1, VR.mono hI hβ x v h2, VRs.mono hI hβ xs vs' h3⟩
theorem CR.mono {I I' : Imm} {β β' : Bmap} (hI : I.le I') (hβ : β.le β') : ∀ (xs : List AVal) (b off : Nat), CR I β xs b off → CR I' β' xs b off
  | [], _, _, _ => by simp only [CR]
  | x :: xs, b, off, h => by
    simp only [CR] at h ⊢
    obtain ⟨⟨u, h1, h2⟩, h3⟩ := h
    exact ⟨⟨u, hI _ _ _ h1, VR.mono hI hβ x u h2⟩, CR.mono hI hβ xs b (off + 1) h3⟩
theorem LR.mono {I I' : Imm} {β β' : Bmap} (hI : I.le I') (hβ : β.le β') (k : Nat) : ∀ (xs : List AVal) (b off : Nat), LR I β k xs b off → LR I' β' k xs b off
  | [], _, _, _ => by simp only [LR]
  | .agg cs :: xs, b, off, h => by
    simp only [LR] at h ⊢
    obtain ⟨⟨h1, h2⟩, h3⟩ := h
    exact ⟨⟨h1, CR.mono hI hβ cs b off h2⟩, LR.mono hI hβ k xs b (off + k) h3⟩
  | .int a b' :: xs, b, off, h => by
    simp only [LR] at h ⊢
    obtain ⟨⟨h0, u, h1, h2⟩, h3⟩ := h
    exact ⟨⟨h0, u, hI _ _ _ h1, VR.mono hI hβ _ u h2⟩, LR.mono hI hβ k xs b (off + k) h3⟩
  | .any :: xs, b, off, h => by
    simp only [LR] at h ⊢
    obtain ⟨⟨h0, u, h1, h2⟩, h3⟩ := h
    exact ⟨⟨h0, u, hI _ _ _ h1, VR.mono hI hβ _ u h2⟩, LR.mono hI hβ k xs b (off + k) h3⟩
  | .bool _ :: xs, b, off, h => by
    simp only [LR] at h ⊢
    obtain ⟨⟨h0, u, h1, h2⟩, h3⟩ := h
    exact ⟨⟨h0, u, hI _ _ _ h1, VR.mono hI hβ _ u h2⟩, LR.mono hI hβ k xs b (off + k) h3⟩
  | .str _ :: xs, b, off, h => by
    simp only [LR] at h ⊢
    obtain ⟨⟨h0, u, h1, h2⟩, h3⟩ := h
    exact ⟨⟨h0, u, hI _ _ _ h1, VR.mono hI hβ _ u h2⟩, LR.mono hI hβ k xs b (off + k) h3⟩
  | .nilp :: xs, b, off, h => by
    simp only [LR] at h ⊢
    obtain ⟨⟨h0, u, h1, h2⟩, h3⟩ := h
    exact ⟨⟨h0, u, hI _ _ _ h1, VR.mono hI hβ _ u h2⟩, LR.mono hI hβ k xs b (off + k) h3⟩
  | .nilm :: xs, b, off, h => by
    simp only [LR] at h ⊢
    obtain ⟨⟨h0, u, h1, h2⟩, h3⟩ := h
    exact ⟨⟨h0, u, hI _ _ _ h1, VR.mono hI hβ _ u h2⟩, LR.mono hI hβ k xs b (off + k) h3⟩
  | .ref _ _ :: xs, b, off, h => by
    simp only [LR] at h ⊢
    obtain ⟨⟨h0, u, h1, h2⟩, h3⟩ := h
    exact ⟨⟨h0, u, hI _ _ _ h1, VR.mono hI hβ _ u h2⟩, LR.mono hI hβ k xs b (off + k) h3⟩
  | .eref _ _ _ _ :: xs, b, off, h => by
    simp only [LR] at h ⊢
    obtain ⟨⟨h0, u, h1, h2⟩, h3⟩ := h
    exact ⟨⟨h0, u, hI _ _ _ h1, VR.mono hI hβ _ u h2⟩, LR.mono hI hβ k xs b (off + k) h3⟩
  | .iptr _ _ :: xs, b, off, h => by
    simp only [LR] at h ⊢
    obtain ⟨⟨h0, u, h1, h2⟩, h3⟩ := h
    exact ⟨⟨h0, u, hI _ _ _ h1, VR.mono hI hβ _ u h2⟩, LR.mono hI hβ k xs b (off + k) h3⟩
  | .lst _ _ :: xs, b, off, h => by
    simp only [LR] at h ⊢
    obtain ⟨⟨h0, u, h1, h2⟩, h3⟩ := h
    exact ⟨⟨h0, u, hI _ _ _ h1, VR.mono hI hβ _ u h2⟩, LR.mono hI hβ k xs b (off + k) h3⟩
  | .sl _ _ _ _ :: xs, b, off, h => by
    simp only [LR] at h ⊢
    obtain ⟨⟨h0, u, h1, h2⟩, h3⟩ := h
    exact ⟨⟨h0, u, hI _ _ _ h1, VR.mono hI hβ _ u h2⟩, LR.mono hI hβ k xs b (off + k) h3⟩
  | .top :: xs, b, off, h => by
    simp only [LR] at h ⊢
    obtain ⟨⟨h0, u, h1, h2⟩, h3⟩ := h
    exact ⟨⟨h0, u, hI _ _ _ h1, VR.mono hI hβ _ u h2⟩, LR.mono hI hβ k xs b (off + k) h3⟩
  | .pan _ :: xs, b, off, h => by
    simp only [LR] at h ⊢
    obtain ⟨⟨h0, u, h1, h2⟩, h3⟩ := h
    exact ⟨⟨h0, u, hI _ _ _ h1, VR.mono hI hβ _ u h2⟩, LR.mono hI hβ k xs b (off + k) h3⟩
  | .nili :: xs, b, off, h => by
    simp only [LR] at h ⊢
    obtain ⟨⟨h0, u, h1, h2⟩, h3⟩ := h
    exact ⟨⟨h0, u, hI _ _ _ h1, VR.mono hI hβ _ u h2⟩, LR.mono hI hβ k xs b (off + k) h3⟩
  | .iface _ _ :: xs, b, off, h => by
    simp only [LR] at h ⊢
    obtain ⟨⟨h0, u, h1, h2⟩, h3⟩ := h
    exact ⟨⟨h0, u, hI _ _ _ h1, VR.mono hI hβ _ u h2⟩, LR.mono hI hβ k xs b (off + k) h3⟩
  | .tup _ :: xs, b, off, h => by
    simp only [LR] at h ⊢
    obtain ⟨⟨h0, u, h1, h2⟩, h3⟩ := h
    exact ⟨⟨h0, u, hI _ _ _ h1, VR.mono hI hβ _ u h2⟩, LR.mono hI hβ k xs b (off + k) h3⟩
  | .fn _ _ :: xs, b, off, h => by
    simp only [LR] at h ⊢
    obtain ⟨⟨h0, u, h1, h2⟩, h3⟩ := h
    exact ⟨⟨h0, u, hI _ _ _ h1, VR.mono hI hβ _ u h2⟩, LR.mono hI hβ k xs b (off + k) h3⟩
  | .map _ :: xs, b, off, h => by
    simp only [LR] at h ⊢
    obtain ⟨⟨h0, u, h1, h2⟩, h3⟩ := h
    exact ⟨⟨h0, u, hI _ _ _ h1, VR.mono hI hβ _ u h2⟩, LR.mono hI hβ k xs b (off + k) h3⟩
end
theorem LR_cons (I : Imm) (β : Bmap) (k : Nat) (x : AVal) (xs : List AVal) (b off : Nat) : LR I β k (x :: xs) b off ↔ (x.cells.length = k ∧ CR I β x.cells b off) ∧ LR I β k xs b (off + k) := by
  cases x <;> simp [LR, CR, AVal.cells]
theorem treeL_cons (x : AVal) (xs : List AVal) : treeL (x :: xs) = (treeC x.cells && treeL xs) := by
  cases x <;> simp [treeL, treeC, AVal.cells]

def B0 : Bmap := fun _ _ => none
theorem B0_le (β : Bmap) : B0.le β := fun _ _ _ h => by cases h

mutual
theorem VR.tree {I : Imm} {β : Bmap} : ∀ (x : AVal) (v : Value), tree1 x = true → VR I β x v → VR I B0 x v
  | .int _ _, _, _, h => by simpa only [VR] using h
  | .bool _, _, _, h => by simpa only [VR] using h
  | .str _, _, _, h => by simpa only [VR] using h
  | .nilp, _, _, h => by simpa only [VR] using h
  | .nilm, _, _, h => by simpa only [VR] using h
  | .nili, _, _, h => by simpa only [VR] using h
  | .top, _, ht, _ => by simp [tree1] at ht
  | .pan _, _, ht, _ => by simp [tree1] at ht
  | .iface _ _, _, ht, _ => by simp [tree1] at ht
  | .lst x xs, _, ht, h => by
    simp only [VR] at h ⊢
    obtain ⟨A, cap, h1, h2, h3, h4, h5, h6⟩ := h
    refine ⟨A, cap, h1, h2, h3, h4, ?_, h6⟩
    rcases h5 with h5 | ⟨b, off, k, e, hk, h5⟩
    · exact Or.inl h5
    · exact Or.inr ⟨b, off, k, e, hk, LR.tree k xs b off h6 h5⟩
  | .any, _, ht, _ => by simp [tree1] at ht
  | .ref _ _, _, ht, _ => by simp [tree1] at ht
  | .eref _ _ _ _, _, ht, _ => by simp [tree1] at ht
  | .iptr _ _, _, ht, _ => by simp [tree1] at ht
  | .sl _ _ _ _, _, ht, _ => by simp [tree1] at ht
  | .agg _, _, ht, _ => by simp [tree1] at ht
  | .tup _, _, ht, _ => by simp [tree1] at ht
  | .fn _ _, _, ht, _ => by simp [tree1] at ht
  | .map _, _, ht, _ => by simp [tree1] at ht
theorem CR.tree {I : Imm} {β : Bmap} : ∀ (xs : List AVal) (b off : Nat), treeC xs = true → CR I β xs b off → CR I B0 xs b off
  | [], _, _, _, _ => by simp only [CR]
  | x :: xs, b, off, ht, h => by
    simp only [CR] at h ⊢
    simp only [treeC, Bool.and_eq_true] at ht
    obtain ⟨⟨u, h1, h2⟩, h3⟩ := h
    exact ⟨⟨u, h1, VR.tree x u ht.1 h2⟩, CR.tree xs b (off + 1) ht.2 h3⟩
theorem LR.tree {I : Imm} {β : Bmap} (k : Nat) : ∀ (xs : List AVal) (b off : Nat), treeL xs = true → LR I β k xs b off → LR I B0 k xs b off
  | [], _, _, _, _ => by simp only [LR]
  | .agg cs :: xs, b, off, ht, h => by
    simp only [LR] at h ⊢
    simp only [treeL, Bool.and_eq_true] at ht
    exact ⟨⟨h.1.1, CR.tree cs b off ht.1 h.1.2⟩, LR.tree k xs b (off + k) ht.2 h.2⟩
  | .int p q :: xs, b, off, ht, h => by
    simp only [LR] at h ⊢
    simp only [treeL, Bool.and_eq_true] at ht
    obtain ⟨⟨h0, u, h1, h2⟩, h3⟩ := h
    exact ⟨⟨h0, u, h1, VR.tree _ u ht.1 h2⟩, LR.tree k xs b (off + k) ht.2 h3⟩
  | .bool p :: xs, b, off, ht, h => by
    simp only [LR] at h ⊢
    simp only [treeL, Bool.and_eq_true] at ht
    obtain ⟨⟨h0, u, h1, h2⟩, h3⟩ := h
    exact ⟨⟨h0, u, h1, VR.tree _ u ht.1 h2⟩, LR.tree k xs b (off + k) ht.2 h3⟩
  | .str p :: xs, b, off, ht, h => by
    simp only [LR] at h ⊢
    simp only [treeL, Bool.and_eq_true] at ht
    obtain ⟨⟨h0, u, h1, h2⟩, h3⟩ := h
    exact ⟨⟨h0, u, h1, VR.tree _ u ht.1 h2⟩, LR.tree k xs b (off + k) ht.2 h3⟩
  | .nilp :: xs, b, off, ht, h => by
    simp only [LR] at h ⊢
    simp only [treeL, Bool.and_eq_true] at ht
    obtain ⟨⟨h0, u, h1, h2⟩, h3⟩ := h
    exact ⟨⟨h0, u, h1, VR.tree _ u ht.1 h2⟩, LR.tree k xs b (off + k) ht.2 h3⟩
  | .nilm :: xs, b, off, ht, h => by
    simp only [LR] at h ⊢
    simp only [treeL, Bool.and_eq_true] at ht
    obtain ⟨⟨h0, u, h1, h2⟩, h3⟩ := h
    exact ⟨⟨h0, u, h1, VR.tree _ u ht.1 h2⟩, LR.tree k xs b (off + k) ht.2 h3⟩
  | .nili :: xs, b, off, ht, h => by
    simp only [LR] at h ⊢
    simp only [treeL, Bool.and_eq_true] at ht
    obtain ⟨⟨h0, u, h1, h2⟩, h3⟩ := h
    exact ⟨⟨h0, u, h1, VR.tree _ u ht.1 h2⟩, LR.tree k xs b (off + k) ht.2 h3⟩
  | .top :: _, _, _, ht, _ => by simp [treeL, tree1] at ht
  | .pan _ :: _, _, _, ht, _ => by simp [treeL, tree1] at ht
  | .iface _ _ :: _, _, _, ht, _ => by simp [treeL, tree1] at ht
  | .lst p q :: xs, b, off, ht, h => by
    simp only [LR] at h ⊢
    simp only [treeL, Bool.and_eq_true] at ht
    obtain ⟨⟨h0, u, h1, h2⟩, h3⟩ := h
    exact ⟨⟨h0, u, h1, VR.tree _ u ht.1 h2⟩, LR.tree k xs b (off + k) ht.2 h3⟩
  | .any :: _, _, _, ht, _ => by simp [treeL, tree1] at ht
  | .ref _ _ :: _, _, _, ht, _ => by simp [treeL, tree1] at ht
  | .eref _ _ _ _ :: _, _, _, ht, _ => by simp [treeL, tree1] at ht
  | .iptr _ _ :: _, _, _, ht, _ => by simp [treeL, tree1] at ht
  | .sl _ _ _ _ :: _, _, _, ht, _ => by simp [treeL, tree1] at ht
  | .tup _ :: _, _, _, ht, _ => by simp [treeL, tree1] at ht
  | .fn _ _ :: _, _, _, ht, _ => by simp [treeL, tree1] at ht
  | .map _ :: _, _, _, ht, _ => by simp [treeL, tree1] at ht
end
theorem VR.of_tree {I : Imm} {β β' : Bmap} {x : AVal} {v : Value} (ht : tree1 x = true) (h : VR I β x v) : VR I β' x v := (VR.tree x v ht h).mono (Imm.le.refl I) (B0_le β') x v
theorem CR.of_tree {I : Imm} {β β' : Bmap} {x : List AVal} {b off : Nat} (ht : treeC x = true) (h : CR I β x b off) : CR I β' x b off := (CR.tree x b off ht h).mono (Imm.le.refl I) (B0_le β') x b off

theorem VRs_length {I : Imm} {β : Bmap} : ∀ {xs : List AVal} {vs : List Value}, VRs I β xs vs → xs.length = vs.length
  | [], vs, h => by simp only [VRs] at h; subst h; rfl
  | x :: xs, vs, h => by
    simp only [VRs] at h
    obtain ⟨v, vs', rfl, _, h3⟩ := h
    simp [VRs_length h3]
theorem VRs_get {I : Imm} {β : Bmap} : ∀ {xs : List AVal} {vs : List Value} (_ : VRs I β xs vs) {i : Nat} {x : AVal}, xs[i]? = some x → ∃ v, vs[i]? = some v ∧ VR I β x v
  | [], _, _, i, x, hx => by simp at hx
  | y :: xs, vs, h, i, x, hx => by
    simp only [VRs] at h
    obtain ⟨v, vs', rfl, h2, h3⟩ := h
    cases i with
    | zero => simp only [List.getElem?_cons_zero, Option.some.injEq] at hx; subst hx; exact ⟨v, rfl, h2⟩
    | succ i => simp only [List.getElem?_cons_succ] at hx ⊢; exact VRs_get h3 hx
theorem VRs_of {I : Imm} {β : Bmap} : ∀ {xs : List AVal} {vs : List Value}, xs.length = vs.length → (∀ (i : Nat) (x : AVal) (v : Value), xs[i]? = some x → vs[i]? = some v → VR I β x v) → VRs I β xs vs
  | [], vs, hl, _ => by simp only [VRs]; exact List.eq_nil_of_length_eq_zero hl.symm
  | x :: xs, [], hl, _ => by simp at hl
  | x :: xs, v :: vs, hl, h => by
    simp only [VRs]
    exact ⟨v, vs, rfl, h 0 x v rfl rfl, VRs_of (by simpa using hl) (fun i a b h1 h2 => h (i + 1) a b (by simpa using h1) (by simpa using h2))⟩
theorem VRs_getD {I : Imm} {β : Bmap} {xs : List AVal} {vs : List Value} (h : VRs I β xs vs) (i : Nat) : VR I β (xs.getD i (.tup [])) (vs.getD i (.tuple #[])) := by
  cases hx : xs[i]? with
  | some x =>
    obtain ⟨v, hv, h⟩ := VRs_get h hx
    simpa [List.getD_eq_getElem?_getD, hx, hv] using h
  | none =>
    have hv : vs[i]? = none := by rw [List.getElem?_eq_none_iff] at hx ⊢; rw [← VRs_length h]; exact hx
    simp only [List.getD_eq_getElem?_getD, hx, hv, Option.getD_none, VR, VRs]
    exact ⟨#[], rfl, rfl⟩
theorem VRs_set {I : Imm} {β : Bmap} {xs : List AVal} {vs : List Value} (h : VRs I β xs vs) {x : AVal} {v : Value} (hx : VR I β x v) (i : Nat) : VRs I β (xs.set i x) (vs.set i v) := by
  have hl := VRs_length h
  refine VRs_of (by simp [hl]) (fun j a b ha hb => ?_)
  rw [List.getElem?_set] at ha hb
  by_cases hij : i = j
  · subst hij
    simp only [if_true] at ha hb
    split at ha
    · rw [if_pos (by omega)] at hb
      simp only [Option.some.injEq] at ha hb
      subst ha hb
      exact hx
    · cases ha
  · rw [if_neg hij] at ha hb
    obtain ⟨v', h1, h2⟩ := VRs_get h ha
    rw [h1] at hb
    injection hb with hb
    exact hb ▸ h2
theorem VRs_append {I : Imm} {β : Bmap} : ∀ {xs ys : List AVal} {us vs : List Value}, VRs I β xs us → VRs I β ys vs → VRs I β (xs ++ ys) (us ++ vs)
  | [], _, us, _, h, h' => by simp only [VRs] at h; subst h; simpa using h'
  | x :: xs, ys, us, vs, h, h' => by
    simp only [VRs] at h
    obtain ⟨v, us', rfl, h2, h3⟩ := h
    simp only [List.cons_append, VRs]
    exact ⟨v, us' ++ vs, rfl, h2, VRs_append h3 h'⟩
theorem VRs_take {I : Imm} {β : Bmap} {xs : List AVal} {us : List Value} (h : VRs I β xs us) (n : Nat) : VRs I β (xs.take n) (us.take n) := by
  refine VRs_of (by simp [VRs_length h]) (fun i x v hx hv => ?_)
  rw [List.getElem?_take] at hx hv
  split at hx
  · rw [if_pos ‹_›] at hv
    obtain ⟨v', h1, h2⟩ := VRs_get h hx
    rw [h1] at hv; injection hv with hv; exact hv ▸ h2
  · cases hx
theorem VRs_drop {I : Imm} {β : Bmap} {xs : List AVal} {us : List Value} (h : VRs I β xs us) (n : Nat) : VRs I β (xs.drop n) (us.drop n) := by
  refine VRs_of (by simp [VRs_length h]) (fun i x v hx hv => ?_)
  rw [List.getElem?_drop] at hx hv
  obtain ⟨v', h1, h2⟩ := VRs_get h hx
  rw [h1] at hv; injection hv with hv; exact hv ▸ h2
theorem VRs_setAt {I : Imm} {β : Bmap} {xs ys : List AVal} {us vs : List Value} (h : VRs I β xs us) (h' : VRs I β ys vs) (o : Nat) : VRs I β (setAt xs o ys) (us.take o ++ vs ++ us.drop (o + vs.length)) := by
  unfold setAt
  rw [← VRs_length h']
  exact VRs_append (VRs_append (VRs_take h o) h') (VRs_drop h _)
theorem VRs_cells {I : Imm} {β : Bmap} {x : AVal} {v : Value} (ht : x ≠ .top) (h : VR I β x v) : VRs I β x.cells v.cells.toList := by
  cases x
  case top => exact absurd rfl ht
  case pan x => simp only [VR] at h
  case agg cs =>
    simp only [VR] at h
    obtain ⟨us, rfl, h⟩ := h
    exact h
  all_goals
    have hv : v.cells = #[v] := by
      simp only [VR] at h
      try exact h.1
      try (obtain ⟨_, _, _, _, rfl⟩ := h; rfl)
      try (obtain ⟨_, _, rfl, _⟩ := h; rfl)
      try (obtain ⟨_, rfl, _⟩ := h; rfl)
      try (obtain ⟨rfl, _⟩ := h; rfl)
      try (subst h; rfl)
      try (obtain ⟨_, _, _, _, (⟨_, _, rfl⟩ | ⟨_, _, _, rfl⟩ | ⟨_, _, _, _, rfl⟩)⟩ := h <;> rfl)
    rw [hv]
    simp only [AVal.cells, VRs]
    exact ⟨v, [], rfl, h, rfl⟩

/-- what may be a map's key -/
def keyA : AVal → Bool
  | .int _ _ | .bool _ | .str _ => true
  | _ => false
/-- one block of the run's heap in a world -/
def BR (I : Imm) (β : Bmap) (w : World) (t : Nat) : ABlk → Prop
  | .free => True
  | .var cs => ∃ b k c us ty, β t 0 = some ⟨some b, k, c⟩ ∧ w.heap[b]? = some (.cells us ty (0, 0)) ∧ VRs I β cs us.toList
  | .row g k xs => ∃ bi, β t g = some bi ∧ bi.k = k ∧ 0 < k ∧ bi.cap ≤ 9223372036854775807 ∧ xs.length ≤ bi.cap ∧ treeL xs = true ∧ (∀ x ∈ xs, x.cells.length = k) ∧
      ((bi.b = none ∧ bi.cap = 0) ∨ ∃ b us ty, bi.b = some b ∧ w.heap[b]? = some (.cells us ty (0, 0)) ∧ us.size = bi.cap * k ∧ VRs I β (xs.flatMap AVal.cells) (us.toList.take (xs.length * k)))
  | .frow g k xs => ∃ bi, β t g = some bi ∧ bi.k = k ∧ 0 < k ∧ bi.cap ≤ 9223372036854775807 ∧ xs.length ≤ bi.cap ∧ treeL xs = true ∧ (xs = [] ∨ ∃ b, bi.b = some b ∧ LR I β k xs b 0)
  | .map es => ∃ b k c arr clk, β t 0 = some ⟨some b, k, c⟩ ∧ w.heap[b]? = some (.map arr clk) ∧ VRs I β (es.map (·.1)) (arr.toList.map (·.key)) ∧ VRs I β (es.map (·.2)) (arr.toList.map (·.val)) ∧ (∀ p ∈ es, keyA p.1 = true)
  | .rrow g k xs => ∃ bi, β t g = some bi ∧ bi.k = k ∧ 0 < k ∧ bi.cap ≤ 9223372036854775807 ∧ xs.length ≤ bi.cap ∧ (∀ x ∈ xs, x.cells.length = k ∧ ∀ c ∈ x.cells, okCell c = true) ∧
      ∃ b us ty, bi.b = some b ∧ w.heap[b]? = some (.cells us ty (0, 0)) ∧ us.size = bi.cap * k ∧ VRs I β (xs.flatMap AVal.cells) (us.toList.take (xs.length * k))
  | .siter l p => ∃ b k c, β t 0 = some ⟨some b, k, c⟩ ∧ w.heap[b]? = some (.stringIter ⟨l.toArray⟩ p)

/-- the world's block that a run's block owns -/
def owns (β : Bmap) (t : Nat) : ABlk → Option Nat
  | .var _ => (β t 0).bind (·.b)
  | .row g _ _ => (β t g).bind (·.b)
  | .rrow g _ _ => (β t g).bind (·.b)
  | .map _ => (β t 0).bind (·.b)
  | .siter _ _ => (β t 0).bind (·.b)
  | _ => none

/-- blocks of K are as they were; the streams too; no block has gone -/
structure KB (K : Nat → Prop) (w w' : World) : Prop where
  os : w'.os = w.os
  tape : w'.tape = w.tape
  output : w'.output = w.output
  size : w.heap.size ≤ w'.heap.size
  block : ∀ k, K k → w'.heap[k]? = w.heap[k]?
theorem KB.refl (K : Nat → Prop) (w : World) : KB K w w := ⟨rfl, rfl, rfl, Nat.le_refl _, fun _ _ => rfl⟩
theorem KB.trans {K : Nat → Prop} {a b c : World} (h : KB K a b) (k : KB K b c) : KB K a c :=
  ⟨k.os.trans h.os, k.tape.trans h.tape, k.output.trans h.output, Nat.le_trans h.size k.size, fun i hi => (k.block i hi).trans (h.block i hi)⟩
theorem KB.mono {K K' : Nat → Prop} {w w' : World} (h : KB K w w') (hK : ∀ b, K' b → K b) : KB K' w w' := ⟨h.os, h.tape, h.output, h.size, fun k hk => h.block k (hK k hk)⟩
/-- blocks of K are there -/
def KLt (K : Nat → Prop) (w : World) : Prop := ∀ b, K b → b < w.heap.size

/-- cells of package variables that are laid for good -/
def Gl : Imm := fun b o =>
  if b = 0 then (if o < 256 then some (.int .u8 (Lib.firstT o)) else none) else
  if b = 1 then (if o < 32 then some (.int .u8 (if o % 2 = 0 then Lib.accLo (o / 2) else Lib.accHi (o / 2))) else none) else
  (none : Option Value)
structure Rel (base : Nat → Prop) (w0 : World) (I0 I : Imm) (β : Bmap) (σ : AHeap) (w : World) : Prop where
  below : KB base w0 w
  old : ∀ b o, base b → I b o = I0 b o
  imm : ∀ b o u, I b o = some u → w.cell? ⟨b, o, none⟩ = some u
  blk : ∀ t x, σ[t]? = some x → BR I β w t x
  own : ∀ t x b, σ[t]? = some x → owns β t x = some b → ¬ base b ∧ ∀ o, I b o = none
  apart : ∀ t x t' x' b, σ[t]? = some x → σ[t']? = some x' → owns β t x = some b → owns β t' x' = some b → t = t'
  fresh : ∀ t g, σ.length ≤ t → β t g = none
  free : ∀ t g, σ[t]? = some .free → β t g = none
  gen : ∀ t b g, σ[t]? = some b → genB b < g → β t g = none
  glob : ∀ b o u, Gl b o = some u → I b o = some u
end Go.Proofs.YtaaflagbhneakaaDoor
