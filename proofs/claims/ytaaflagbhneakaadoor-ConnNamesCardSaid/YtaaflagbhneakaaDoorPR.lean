/- The functions that are told by hand are told rightly. Printed by a program. -/
import Derived.Test.YtaaflagbhneakaaDoorEnv
import Derived.Test.YtaaflagbhneakaaDoorAbsOpen
import Derived.Test.YtaaflagbhneakaaDoorLayIndex
import Derived.Test.YtaaflagbhneakaaDoorLayIndex
import Derived.Test.YtaaflagbhneakaaDoorLayValid
namespace Go.Proofs.YtaaflagbhneakaaDoor
set_option linter.unusedSimpArgs false
set_option linter.unusedVariables false
set_option maxRecDepth 100000
set_option maxHeartbeats 2000000
theorem follows_ok : Tryd.prog.follows .mixedOrders = true := by kernel_rfl
theorem pr_clone_bytes : CloneB Tryd.prog 23 1 1 (.int .u8 0) 38 := ⟨_, _, _, _, _, _, _, _, _, _, _, rfl, rfl, rfl, by kernel_rfl, rfl, rfl, rfl, rfl, rfl, rfl, rfl, rfl, by kernel_rfl, by kernel_rfl, ⟨_, _, _, _, rfl⟩, rfl, by decide⟩
theorem pr_clone_props : CloneB Tryd.prog 26 5 72 (.agg [.int .i64 0, .int .i64 0, .str [], .str [], .lst true []]) 21 := ⟨_, _, _, _, _, _, _, _, _, _, _, rfl, rfl, rfl, by kernel_rfl, rfl, rfl, rfl, rfl, rfl, rfl, rfl, rfl, by kernel_rfl, by kernel_rfl, ⟨_, _, _, _, rfl⟩, rfl, by decide⟩



theorem lookT_mem {α : Type} {d v : α} : ∀ {l : List (Nat × α)} {n : Nat}, lookT d l n = v → v = d ∨ (n, v) ∈ l
  | [], n, h => Or.inl h.symm
  | (k, w) :: r, n, h => by
    simp only [lookT] at h
    split at h
    · rename_i e; subst e h; exact Or.inr (by simp)
    · rcases lookT_mem h with h | h
      · exact Or.inl h
      · exact Or.inr (by simp [h])
theorem prim_ok : PrimOk Tryd.prog PR := by
  intro f g h args σ r σ' hg
  rcases lookT_mem h with h | h
  · cases h
  unfold primT at h
  simp only [List.mem_cons, Prod.mk.injEq, Option.some.injEq, List.not_mem_nil, or_false] at h
  rcases h with ⟨rfl, rfl⟩ | h
  · exact clone_ok follows_ok pr_clone_bytes hg
  rcases h with ⟨rfl, rfl⟩ | h
  · exact clone_ok follows_ok pr_clone_props hg
  rcases h with ⟨rfl, rfl⟩ | h
  · exact indexByte_ok ⟨Tryd.f62, Tryd.func62, by kernel_rfl, by kernel_rfl⟩ (fun s c w => Any.strings_IndexByte lay137 s c w) hg
  rcases h with ⟨rfl, rfl⟩ | h
  · exact indexByte_ok ⟨Tryd.f66, Tryd.func66, by kernel_rfl, by kernel_rfl⟩ (fun s c w => Any.stringslite_IndexByte lay217 s c w) hg
  rcases h with ⟨rfl, rfl⟩ | h
  · exact valid_ok ⟨Tryd.f55, Tryd.func55, by kernel_rfl, by kernel_rfl⟩ (fun s w hs hT => Any.utf8_ValidString lay196 s w hs hT) hg
  exact absurd h.2 (by simp)
/-- what E tells, the program does -/
theorem E_ok : OrOk Tryd.prog E := by
  have h : E = EV CF PR BY := EV_strip CF PR BY
  rw [h]
  exact EV_sound follows_ok prim_ok ann BY
end Go.Proofs.YtaaflagbhneakaaDoor
