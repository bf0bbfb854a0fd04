/- The functions that are told by hand are told rightly. Printed by a program. -/
import Derived.Test.YtemfbgalaklojaaEnv
import Derived.Test.YtemfbgalaklojaaAbsOpen
namespace Go.Proofs.Ytemfbgalaklojaa
set_option linter.unusedSimpArgs false
set_option linter.unusedVariables false
theorem follows_ok : Try.prog.follows .mixedOrders = true := by kernel_rfl
theorem pr_clone_bytes : CloneB Try.prog 22 1 1 (.int .u8 0) 25 := ⟨_, _, _, _, _, _, _, _, _, _, _, rfl, rfl, rfl, by kernel_rfl, rfl, rfl, rfl, rfl, rfl, rfl, rfl, rfl, by kernel_rfl, by kernel_rfl, ⟨_, _, _, _, rfl⟩, rfl, by decide⟩
theorem pr_clone_props : CloneB Try.prog 25 5 72 (.agg [.int .i64 0, .int .i64 0, .str [], .str [], .lst true []]) 45 := ⟨_, _, _, _, _, _, _, _, _, _, _, rfl, rfl, rfl, by kernel_rfl, rfl, rfl, rfl, rfl, rfl, rfl, rfl, rfl, by kernel_rfl, by kernel_rfl, ⟨_, _, _, _, rfl⟩, rfl, by decide⟩
theorem lookT_mem {α : Type} {d v : α} : ∀ {l : List (Nat × α)} {n : Nat}, lookT d l n = v → v = d ∨ (n, v) ∈ l
  | [], n, h => Or.inl h.symm
  | (k, w) :: r, n, h => by
    simp only [lookT] at h
    split at h
    · rename_i e; subst e h; exact Or.inr (by simp)
    · rcases lookT_mem h with h | h
      · exact Or.inl h
      · exact Or.inr (by simp [h])
theorem prim_ok : PrimOk Try.prog PR := by
  intro f g h args σ r σ' hg
  rcases lookT_mem h with h | h
  · cases h
  unfold primT at h
  simp only [List.mem_cons, Prod.mk.injEq, Option.some.injEq, List.not_mem_nil, or_false] at h
  rcases h with ⟨rfl, rfl⟩ | h
  · exact clone_ok follows_ok pr_clone_bytes hg
  rcases h with ⟨rfl, rfl⟩ | h
  · exact clone_ok follows_ok pr_clone_props hg
  exact absurd h.2 (by simp)
/-- what E tells, the program does -/
theorem E_ok : OrOk Try.prog E := EV_sound follows_ok prim_ok ann BY
end Go.Proofs.Ytemfbgalaklojaa
