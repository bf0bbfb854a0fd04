/- Library contracts: the program holds the texts over which they are proved. Printed by a program. -/
import Derived.Test.YtochhdiilicpgaaDoorProg
import Derived.Shelf.Small.Strs
import Derived.Shelf.Strings.Search1
import Derived.Shelf.Strings.Count
namespace Go.Proofs.YtochhdiilicpgaaDoor
set_option linter.unusedSimpArgs false
set_option linter.unusedVariables false
open Go.Shelf
def ren137 : Ren := ⟨fun | 137 => 54 | 217 => 61 | 266 => 64 | n => n, fun | 9 => 9 | 5 => 5 | 3 => 3 | n => n, fun | n => n⟩
theorem lay137 : Go.Proofs.Lays.n137 Tryd.prog ren137 := { mixed := by kernel_rfl, f137 := Tryd.func54.trans (congrArg some (by kernel_rfl)), f217 := Tryd.func61.trans (congrArg some (by kernel_rfl)), f266 := Tryd.func64.trans (congrArg some (by kernel_rfl)), t3 := Tryd.underlying3, a3 := Tryd.isAgg3, z3 := Tryd.sizeOf3, v3 := Tryd.zeroValue3, t5 := Tryd.underlying5, a5 := Tryd.isAgg5, z5 := Tryd.sizeOf5, v5 := Tryd.zeroValue5, t9 := Tryd.underlying9, a9 := Tryd.isAgg9, z9 := Tryd.sizeOf9, v9 := Tryd.zeroValue9 }
def ren217 : Ren := ⟨fun | 217 => 61 | 266 => 64 | n => n, fun | 9 => 9 | 5 => 5 | 3 => 3 | n => n, fun | n => n⟩
theorem lay217 : Go.Proofs.Lays.n217 Tryd.prog ren217 := { mixed := by kernel_rfl, f217 := Tryd.func61.trans (congrArg some (by kernel_rfl)), f266 := Tryd.func64.trans (congrArg some (by kernel_rfl)), t3 := Tryd.underlying3, a3 := Tryd.isAgg3, z3 := Tryd.sizeOf3, v3 := Tryd.zeroValue3, t5 := Tryd.underlying5, a5 := Tryd.isAgg5, z5 := Tryd.sizeOf5, v5 := Tryd.zeroValue5, t9 := Tryd.underlying9, a9 := Tryd.isAgg9, z9 := Tryd.sizeOf9, v9 := Tryd.zeroValue9 }
section
open Go.Shelf
def ren138 : Ren := ⟨fun | 138 => 49 | 195 => 58 | 218 => 60 | 143 => 50 | 219 => 51 | 217 => 61 | 225 => 57 | 224 => 56 | 267 => 62 | 266 => 64 | 314 => 65 | n => n, fun | 9 => 9 | 3 => 3 | 4 => 4 | 5 => 5 | 0 => 0 | 46 => 58 | 146 => 68 | 51 => 67 | n => n, fun | 1 => 2 | n => n⟩
theorem lay138 : Go.Proofs.Lays.n138 Tryd.prog ren138 := { mixed := by kernel_rfl, f138 := Tryd.func49.trans (congrArg some (by kernel_rfl)), f143 := Tryd.func50.trans (congrArg some (by kernel_rfl)), f195 := Tryd.func58.trans (congrArg some (by kernel_rfl)), f217 := Tryd.func61.trans (congrArg some (by kernel_rfl)), f218 := Tryd.func60.trans (congrArg some (by kernel_rfl)), f219 := Tryd.func51.trans (congrArg some (by kernel_rfl)), f224 := Tryd.func56.trans (congrArg some (by kernel_rfl)), f225 := Tryd.func57.trans (congrArg some (by kernel_rfl)), f266 := Tryd.func64.trans (congrArg some (by kernel_rfl)), f267 := Tryd.func62.trans (congrArg some (by kernel_rfl)), f314 := Tryd.func65.trans (congrArg some (by kernel_rfl)), t0 := Tryd.underlying0, a0 := Tryd.isAgg0, z0 := Tryd.sizeOf0, v0 := Tryd.zeroValue0, t3 := Tryd.underlying3, a3 := Tryd.isAgg3, z3 := Tryd.sizeOf3, v3 := Tryd.zeroValue3, t4 := Tryd.underlying4, a4 := Tryd.isAgg4, z4 := Tryd.sizeOf4, v4 := Tryd.zeroValue4, t5 := Tryd.underlying5, a5 := Tryd.isAgg5, z5 := Tryd.sizeOf5, v5 := Tryd.zeroValue5, t9 := Tryd.underlying9, a9 := Tryd.isAgg9, z9 := Tryd.sizeOf9, v9 := Tryd.zeroValue9, t46 := Tryd.underlying58, a46 := Tryd.isAgg58, z46 := Tryd.sizeOf58, v46 := Tryd.zeroValue58, t51 := Tryd.underlying67, a51 := Tryd.isAgg67, z51 := Tryd.sizeOf67, v51 := Tryd.zeroValue67, t146 := Tryd.underlying68, a146 := Tryd.isAgg68, z146 := Tryd.sizeOf68, v146 := Tryd.zeroValue68, g1 := by kernel_rfl }
end
end Go.Proofs.YtochhdiilicpgaaDoor
