/- append, with one fact more: what the old slice read it still reads. -/
import Derived.Test.YtbndfejfhngeoaaLend
namespace Go.Proofs.Ytbndfejfhngeoaa
open Go.RowKit

section
variable {P : Program} {t e : TypeId} {z : Value} {size bytes : Nat}
theorem run_app_old (T : SliceT P t e z size bytes) (w : World) (ty : TypeId) {base : Nat} {A0 : Option Addr} {n c0 : Nat} {xs : List Value} (hown : w.ownsRow base e size (.slice A0 n c0) n xs)
    {A : Option Addr} {m c : Nat} {news : List Value} (hl : news.length = m * size) (hr : Row w A news) (h1 : ∀ u ∈ news, u.oneCell' = true)
    (hroom : (n + m) * bytes ≤ 140737488355328) {v' : Value} {w' : World} (hrun : (Builtin.append_ #[t, t] ty #[.slice A0 n c0, .slice A m c]).run P w = .ok v' w') : Row w' A0 xs := by
  obtain ⟨i, hi, hz, hsz, hby⟩ := T.hi
  rcases hown.2 with ⟨hv, hn0⟩ | ⟨g, cap, cur, hv, hb, hg, hnc, hcm, hcs, htake⟩
  · have hx : xs = [] := List.eq_nil_of_length_eq_zero (by have := hown.1; rw [hn0] at this; simpa using this)
    exact Or.inl hx
  · injection hv with e1 _ e3
    subst e1 e3
    by_cases hfit : n + m ≤ c0
    · obtain ⟨w2, h2, h3, _⟩ := run_app_fits T w ty hown (c := c) hl hr h1 hfit
      rw [h2] at hrun
      injection hrun with _ hrun
      subst hrun
      have := (Row.of_own h3).take xs.length
      rwa [List.take_left] at this
    · rcases A with _ | ad
      · exfalso
        have hn : news = [] := by
          rcases hr with h | ⟨b, off, e, _⟩
          · exact h
          · cases e
        subst hn
        have hm : m = 0 := by
          have h2 : m * size = 0 := by simpa using hl.symm
          rcases Nat.mul_eq_zero.1 h2 with h | h
          · exact h
          · have := T.hs; omega
        omega
      · have hcells : ∀ j u, news[j]? = some u → w.cell? (ad.add j) = some u := by
          intro j u hu
          rcases hr with h | ⟨b, off, e, h⟩
          · subst h; simp at hu
          · injection e with e
            subst e
            rw [Addr.add_lit]
            exact h j u hu
        have hmax : n + m ≤ 140737488355328 := by
          have : (n + m) * 1 ≤ (n + m) * bytes := Nat.mul_le_mul_left _ T.hb
          omega
        subst hsz hby
        have h2 := run_append_grow (P := P) w t ty e i z T.ht hi hz ⟨g, 0, none⟩ n c0 xs hown.1 (hown.cells (g := g) rfl) ad m c news hl hcells (by omega) (by omega) (growslice_fits (by omega) hroom)
        rw [h2] at hrun
        injection hrun with _ hrun
        subst hrun
        exact ((Row.of_own hown).drew).alloc _
theorem wpList_app_old (T : SliceT P t e z size bytes) {w : World} {ops : Array Oper} {rest : List Oper} {o : Oper} {a : Act} {Q : Exit → Act → World → Prop} (hgd : o.guard = none) (s x : Operand)
    (ho : o.op = .call { callee := .builtin .append, args := #[s, x], argTypes := #[t, t] })
    {base : Nat} {A0 : Option Addr} {n c0 : Nat} {xs : List Value} (hs : a.eval s = .slice A0 n c0) (hown : w.ownsRow base e size (.slice A0 n c0) n xs)
    {A : Option Addr} {m c : Nat} {news : List Value} (hx : a.eval x = .slice A m c) (hl : news.length = m * size) (hr : Row w A news) (h1 : ∀ u ∈ news, u.oneCell' = true)
    (hroom : (n + m) * bytes ≤ 140737488355328) (hbase : base ≤ w.heap.size)
    (h : ∀ A' c' w', w'.ownsRow base e size (.slice A' (n + m) c') (n + m) (xs ++ news) → w.grownBy w' (Value.ownBlock (.slice A0 n c0)) →
      (Value.ownBlock (.slice A' (n + m) c') = Value.ownBlock (.slice A0 n c0) ∨ Value.ownBlock (.slice A' (n + m) c') = some w.heap.size) → Row w' A0 xs → wpList P ops Q rest (a.put o.dst (.slice A' (n + m) c')) w') :
    wpList P ops Q (o :: rest) a w := by
  refine wpList_plain hgd fun K hK => ?_
  obtain ⟨A', c', w', hrun, h2, h3, h4⟩ := run_app T w o.type hown (c := c) hl hr h1 hroom hbase
  have h5 := run_app_old T w o.type hown (c := c) hl hr h1 hroom hrun
  unfold Oper.wp execOp
  simp only [ho, resolve, invoke, builtin, Sem.run_bind, Sem.run_pure, Result.andThen_ok, List.map_toArray, List.map_cons, List.map_nil, hs, hx, hrun]
  exact hK _ _ (h A' c' w' h2 h3 h4 h5)
end
end Go.Proofs.Ytbndfejfhngeoaa
