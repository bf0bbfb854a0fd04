/-
  DERIVED. GIVEN WITH THE SEED: THE CARDS: each row of YtbjflkbenobjjaaDoorRows.lean that lists a variable, with what it lists TIED to the program's text (the seventh form; the later family's looks); each row that meets fmt, with fmt's text TOLD by the authors' own Lean function (tested against real Go, not proved from fmt's source: count such statements apart). THE CARD IS WHAT COUNTS. Prove the row's statement (the work); the ties are given (YtbjflkbenobjjaaDoorTie.lean); close each card by the builder's one call (the guide's Derived/Test/ToyasCard.lean, 'card_holds'). Laid BY PROGRAM, IN A SANDBOX (cutbox-door.mjs). By AI agents, Wed Nov 11 2026. No macro, syntax, notation, axiom, sorry.
-/
import Derived.Test.YtbjflkbenobjjaaDoorRows
import GoSem.ClaimSeven
namespace Go.Proofs.YtbjflkbenobjjaaDoor
namespace Rows

/-- THE TIED CARD OF 'tidingslaw15.TreeOrder'. -/
def treeOrderCard : Claim7 := { stood := { row := treeOrderRow, standIns := [], harness := (true, "7f78adfeede73c5ab6a1165d559b789e4e9d32b89047345e508e7e2cdaa095ee"), looks := false }, kinds := [], alts := [], laidByText := true, laidKinds := [.data, .pinned], laidTests := true, laidLooks := .later }
def TreeOrderCardSaid : Prop := Claim7.holds Tryd.pinned (.plain (OpenSpec.ofChange treeOrderSpec)) treeOrderCard

/-- THE TIED CARD OF 'tidingslaw15.TreeBoth'. -/
def treeBothCard : Claim7 := { stood := { row := treeBothRow, standIns := [], harness := (true, "7f78adfeede73c5ab6a1165d559b789e4e9d32b89047345e508e7e2cdaa095ee"), looks := false }, kinds := [], alts := [], laidByText := true, laidKinds := [.data, .pinned], laidTests := true, laidLooks := .later }
def TreeBothCardSaid : Prop := Claim7.holds Tryd.pinned (.plain (OpenSpec.ofChange treeBothSpec)) treeBothCard

/-- THE TIED CARD OF 'tidingslaw15.IndexPlays'. -/
def indexPlaysCard : Claim7 := { stood := { row := indexPlaysRow, standIns := [], harness := (true, "7f78adfeede73c5ab6a1165d559b789e4e9d32b89047345e508e7e2cdaa095ee"), looks := false }, kinds := [], alts := [], laidByText := true, laidKinds := [.data, .pinned], laidTests := true, laidLooks := .later }
def IndexPlaysCardSaid : Prop := Claim7.holds Tryd.pinned (.plain (OpenSpec.ofChange indexPlaysSpec)) indexPlaysCard

/-- THE TIED CARD OF 'tidingslaw15.TreePlays'. -/
def treePlaysCard : Claim7 := { stood := { row := treePlaysRow, standIns := [], harness := (true, "7f78adfeede73c5ab6a1165d559b789e4e9d32b89047345e508e7e2cdaa095ee"), looks := false }, kinds := [], alts := [], laidByText := true, laidKinds := [.data, .pinned], laidTests := true, laidLooks := .later }
def TreePlaysCardSaid : Prop := Claim7.holds Tryd.pinned (.plain (OpenSpec.ofChange treePlaysSpec)) treePlaysCard

/-- THE SECOND FORM's CARD OF 'tidingslaw15.TreeOrder'. -/
def treeOrderUptoCard : Claim7 := { stood := { row := treeOrderUptoRow, standIns := [], harness := (true, "7f78adfeede73c5ab6a1165d559b789e4e9d32b89047345e508e7e2cdaa095ee"), looks := false }, kinds := [], alts := [], laidByText := true, laidKinds := [.data, .pinned], laidTests := true, laidLooks := .later }
def TreeOrderUptoCardSaid : Prop := Claim7.holds Tryd.pinned (.plain (OpenSpec.upto treeOrderSpec)) treeOrderUptoCard

/-- THE SECOND FORM's CARD OF 'tidingslaw15.TreeBoth'. -/
def treeBothUptoCard : Claim7 := { stood := { row := treeBothUptoRow, standIns := [], harness := (true, "7f78adfeede73c5ab6a1165d559b789e4e9d32b89047345e508e7e2cdaa095ee"), looks := false }, kinds := [], alts := [], laidByText := true, laidKinds := [.data, .pinned], laidTests := true, laidLooks := .later }
def TreeBothUptoCardSaid : Prop := Claim7.holds Tryd.pinned (.plain (OpenSpec.upto treeBothSpec)) treeBothUptoCard

/-- THE SECOND FORM's CARD OF 'tidingslaw15.IndexPlays'. -/
def indexPlaysUptoCard : Claim7 := { stood := { row := indexPlaysUptoRow, standIns := [], harness := (true, "7f78adfeede73c5ab6a1165d559b789e4e9d32b89047345e508e7e2cdaa095ee"), looks := false }, kinds := [], alts := [], laidByText := true, laidKinds := [.data, .pinned], laidTests := true, laidLooks := .later }
def IndexPlaysUptoCardSaid : Prop := Claim7.holds Tryd.pinned (.plain (OpenSpec.upto indexPlaysSpec)) indexPlaysUptoCard

/-- THE SECOND FORM's CARD OF 'tidingslaw15.TreePlays'. -/
def treePlaysUptoCard : Claim7 := { stood := { row := treePlaysUptoRow, standIns := [], harness := (true, "7f78adfeede73c5ab6a1165d559b789e4e9d32b89047345e508e7e2cdaa095ee"), looks := false }, kinds := [], alts := [], laidByText := true, laidKinds := [.data, .pinned], laidTests := true, laidLooks := .later }
def TreePlaysUptoCardSaid : Prop := Claim7.holds Tryd.pinned (.plain (OpenSpec.upto treePlaysSpec)) treePlaysUptoCard
end Rows
end Go.Proofs.YtbjflkbenobjjaaDoor
