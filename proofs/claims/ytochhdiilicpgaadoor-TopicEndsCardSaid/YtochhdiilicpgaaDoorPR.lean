/- The functions that are told by hand are told rightly. Printed by a program. -/
import Derived.Test.YtochhdiilicpgaaDoorEnv
import Derived.Test.YtochhdiilicpgaaDoorAbsOpen
import Derived.Test.YtochhdiilicpgaaDoorLayIndex
import Derived.Test.YtochhdiilicpgaaDoorLayIndex
import Derived.Test.YtochhdiilicpgaaDoorLayIndex
import Derived.Test.YtochhdiilicpgaaDoorLayValid
namespace Go.Proofs.YtochhdiilicpgaaDoor
set_option linter.unusedSimpArgs false
set_option linter.unusedVariables false
set_option maxRecDepth 100000
set_option maxHeartbeats 2000000
theorem follows_ok : Tryd.prog.follows .mixedOrders = true := by kernel_rfl




theorem lookT_mem {α : Type} {d v : α} : ∀ {l : List (Nat × α)} {n : Nat}, lookT d l n = v → v = d ∨ (n, v) ∈ l
  | [], n, h => Or.inl h.symm
  | (k, w) :: r, n, h => by
    simp only [lookT] at h
    split at h
    · rename_i e; subst e h; exact Or.inr (by simp)
    · rcases lookT_mem h with h | h
      · exact Or.inl h
      · exact Or.inr (by simp [h])
theorem prim_ok : PrimOk Tryd.prog PR := by
  intro f g h args σ r σ' hg
  rcases lookT_mem h with h | h
  · cases h
  unfold primT at h
  simp only [List.mem_cons, Prod.mk.injEq, Option.some.injEq, List.not_mem_nil, or_false] at h
  rcases h with ⟨rfl, rfl⟩ | h
  · exact indexByte_ok ⟨Tryd.f54, Tryd.func54, by kernel_rfl, by kernel_rfl⟩ (fun s c w => Any.strings_IndexByte lay137 s c w) hg
  rcases h with ⟨rfl, rfl⟩ | h
  · exact indexByte_ok ⟨Tryd.f61, Tryd.func61, by kernel_rfl, by kernel_rfl⟩ (fun s c w => Any.stringslite_IndexByte lay217 s c w) hg
  rcases h with ⟨rfl, rfl⟩ | h
  · exact count_ok ⟨Tryd.f49, Tryd.func49, by kernel_rfl, by kernel_rfl⟩ (fun s c w => Any.strings_Count_one lay138 s c w) hg
  rcases h with ⟨rfl, rfl⟩ | h
  · exact valid_ok ⟨Tryd.f43, Tryd.func43, by kernel_rfl, by kernel_rfl⟩ (fun s w hs hT => Any.utf8_ValidString lay196 s w hs hT) hg
  exact absurd h.2 (by simp)
/-- what E tells, the program does -/
theorem E_ok : OrOk Tryd.prog E := by
  have h : E = EV CF PR BY := EV_strip CF PR BY
  rw [h]
  exact EV_sound follows_ok prim_ok ann BY
end Go.Proofs.YtochhdiilicpgaaDoor
