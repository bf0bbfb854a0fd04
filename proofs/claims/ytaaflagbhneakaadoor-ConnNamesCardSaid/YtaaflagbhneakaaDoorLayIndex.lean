/- Library contracts: the program holds the texts over which they are proved. Printed by a program. -/
import Derived.Test.YtaaflagbhneakaaDoorProg
import Derived.Shelf.Small.Strs
import Derived.Shelf.Strings.Search1
import Derived.Shelf.Strings.Count
namespace Go.Proofs.YtaaflagbhneakaaDoor
set_option linter.unusedSimpArgs false
set_option linter.unusedVariables false
open Go.Shelf
def ren137 : Ren := ⟨fun | 137 => 62 | 217 => 66 | 266 => 67 | n => n, fun | 9 => 9 | 5 => 5 | 3 => 3 | n => n, fun | n => n⟩
theorem lay137 : Go.Proofs.Lays.n137 Tryd.prog ren137 := { mixed := by kernel_rfl, f137 := Tryd.func62.trans (congrArg some (by kernel_rfl)), f217 := Tryd.func66.trans (congrArg some (by kernel_rfl)), f266 := Tryd.func67.trans (congrArg some (by kernel_rfl)), t3 := Tryd.underlying3, a3 := Tryd.isAgg3, z3 := Tryd.sizeOf3, v3 := Tryd.zeroValue3, t5 := Tryd.underlying5, a5 := Tryd.isAgg5, z5 := Tryd.sizeOf5, v5 := Tryd.zeroValue5, t9 := Tryd.underlying9, a9 := Tryd.isAgg9, z9 := Tryd.sizeOf9, v9 := Tryd.zeroValue9 }
def ren217 : Ren := ⟨fun | 217 => 66 | 266 => 67 | n => n, fun | 9 => 9 | 5 => 5 | 3 => 3 | n => n, fun | n => n⟩
theorem lay217 : Go.Proofs.Lays.n217 Tryd.prog ren217 := { mixed := by kernel_rfl, f217 := Tryd.func66.trans (congrArg some (by kernel_rfl)), f266 := Tryd.func67.trans (congrArg some (by kernel_rfl)), t3 := Tryd.underlying3, a3 := Tryd.isAgg3, z3 := Tryd.sizeOf3, v3 := Tryd.zeroValue3, t5 := Tryd.underlying5, a5 := Tryd.isAgg5, z5 := Tryd.sizeOf5, v5 := Tryd.zeroValue5, t9 := Tryd.underlying9, a9 := Tryd.isAgg9, z9 := Tryd.sizeOf9, v9 := Tryd.zeroValue9 }
section
open Go.Shelf
end
end Go.Proofs.YtaaflagbhneakaaDoor
