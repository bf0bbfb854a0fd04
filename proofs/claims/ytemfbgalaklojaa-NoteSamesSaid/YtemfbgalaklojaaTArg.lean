/- What a law is given, as the typed data. -/
import Derived.Test.YtemfbgalaklojaaTNotes
namespace Go.Proofs.Ytemfbgalaklojaa
set_option linter.unusedSimpArgs false
set_option linter.unusedVariables false
open Go.RowKit
theorem rows_of {α : Type} {T : Ty} {s : Bool} {f : α → AVal} (h : ∀ y, TyC T y → ∃ a, elemV s y = f a) {xs : List AVal} (hx : TyC (.slice s T) xs) : ∃ l : List α, xs = [.lst false (l.map f)] ∧ l.length ≤ 9223372036854775807 := by
  simp only [TyC] at hx
  obtain ⟨ys, rfl, h1, h2⟩ := hx
  have : ∀ ys : List (List AVal), (∀ y ∈ ys, TyC T y) → ∃ l : List α, ys.map (elemV s) = l.map f := by
    intro ys
    induction ys with
    | nil => intro _; exact ⟨[], rfl⟩
    | cons y ys ih =>
      intro hy
      obtain ⟨a, ha⟩ := h y (hy y (by simp))
      obtain ⟨l, hl⟩ := ih fun y' h' => hy y' (by simp [h'])
      exact ⟨a :: l, by simp [ha, hl]⟩
  obtain ⟨l, hl⟩ := this ys h2
  refine ⟨l, by rw [hl], ?_⟩
  have := congrArg List.length hl
  simp only [List.length_map] at this
  omega
theorem byte_of {y : List AVal} (h : TyC (.int .u8) y) : ∃ b, elemV false y = byteV b := by
  simp only [TyC] at h
  obtain ⟨n, hw, rfl⟩ := h
  have h1 : 0 ≤ n ∧ n ≤ 255 := by
    simp only [Lit.wf, Bool.and_eq_true, decide_eq_true_eq] at hw
    exact hw
  refine ⟨UInt8.ofNat n.toNat, ?_⟩
  simp only [elemV, Bool.false_eq_true, if_false, List.headD_cons, byteV, AVal.int.injEq, true_and]
  rw [UInt8.toNat_ofNat']
  omega
theorem bytes_of {xs : List AVal} (h : TyC (.slice false (.int .u8)) xs) : ∃ b : Bytes, xs = [bytesV b] ∧ b.length ≤ 9223372036854775807 := rows_of (fun _ => byte_of) h
theorem ints_of {xs : List AVal} (h : TyC (.slice false (.int .i64)) xs) : ∃ b : List Int, xs = [intsV b] ∧ b.length ≤ 9223372036854775807 := rows_of (fun y hy => by
  simp only [TyC] at hy
  obtain ⟨n, _, rfl⟩ := hy
  exact ⟨n, rfl⟩) h
def propT : Ty := .struct [.int .i64, .int .i64, .str, .str, .slice false (.int .u8)]
theorem prop_of {y : List AVal} (h : TyC propT y) : ∃ p, elemV true y = propV p := by
  unfold propT at h
  rw [TyC] at h
  simp only [TysC] at h
  obtain ⟨_, _, rfl, h1, _, _, rfl, h2, _, _, rfl, h3, _, _, rfl, h4, _, _, rfl, h5, rfl⟩ := h
  obtain ⟨d, rfl, _⟩ := bytes_of h5
  simp only [TyC] at h1 h2 h3 h4
  obtain ⟨i, _, rfl⟩ := h1
  obtain ⟨n, _, rfl⟩ := h2
  obtain ⟨t, _, rfl⟩ := h3
  obtain ⟨p, _, rfl⟩ := h4
  exact ⟨⟨i, n, t, p, d⟩, rfl⟩
theorem props_of {xs : List AVal} (h : TyC (.slice true propT) xs) : ∃ l : List PropD, xs = [propsV l] ∧ l.length ≤ 9223372036854775807 := rows_of (fun _ => prop_of) h
def noteT : Ty := .struct [.str, .slice false (.int .u8), .int .i64, .bool, .str, .int .i64, .slice true propT, .int .i64, .int .i64, .int .i64]
theorem noteC_of {y : List AVal} (h : TyC noteT y) : ∃ n, y = noteC n := by
  unfold noteT at h
  rw [TyC] at h
  simp only [TysC] at h
  obtain ⟨_, _, rfl, h1, _, _, rfl, h2, _, _, rfl, h3, _, _, rfl, h4, _, _, rfl, h5, _, _, rfl, h6, _, _, rfl, h7, _, _, rfl, h8, _, _, rfl, h9, _, _, rfl, h10, rfl⟩ := h
  obtain ⟨d, rfl, _⟩ := bytes_of h2
  obtain ⟨ps, rfl, _⟩ := props_of h7
  simp only [TyC] at h1 h3 h4 h5 h6 h8 h9 h10
  obtain ⟨a1, _, rfl⟩ := h1
  obtain ⟨a3, _, rfl⟩ := h3
  obtain ⟨a4, rfl⟩ := h4
  obtain ⟨a5, _, rfl⟩ := h5
  obtain ⟨a6, _, rfl⟩ := h6
  obtain ⟨a8, _, rfl⟩ := h8
  obtain ⟨a9, _, rfl⟩ := h9
  obtain ⟨a10, _, rfl⟩ := h10
  exact ⟨⟨a1, d, a3, a4, a5, a6, ps, a8, a9, a10⟩, rfl⟩
def itemT : Ty := .struct [noteT, .int .i64, .bool, .slice false (.int .i64), .str]
theorem item_of {x : AVal} (h : ArgC true itemT x) : ∃ it, x = itemV it := by
  obtain ⟨y, h, rfl⟩ := h
  unfold itemT at h
  rw [TyC] at h
  simp only [TysC] at h
  obtain ⟨_, _, rfl, h1, _, _, rfl, h2, _, _, rfl, h3, _, _, rfl, h4, _, _, rfl, h5, rfl⟩ := h
  obtain ⟨n, rfl⟩ := noteC_of h1
  obtain ⟨l, rfl, _⟩ := ints_of h4
  simp only [TyC] at h2 h3 h5
  obtain ⟨a2, _, rfl⟩ := h2
  obtain ⟨a3, rfl⟩ := h3
  obtain ⟨a5, _, rfl⟩ := h5
  exact ⟨⟨n, a2, a3, l, a5⟩, rfl⟩
example : tyOf Try.prog 8 36 = some itemT := by kernel_rfl
example : isRowD (Try.prog.underlying 36) = true := by kernel_rfl
end Go.Proofs.Ytemfbgalaklojaa
