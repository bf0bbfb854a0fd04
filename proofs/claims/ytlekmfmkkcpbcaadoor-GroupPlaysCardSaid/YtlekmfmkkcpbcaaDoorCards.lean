/-
  DERIVED. GIVEN WITH THE SEED: THE CARDS: each row of YtlekmfmkkcpbcaaDoorRows.lean that lists a variable, with what it lists TIED to the program's text (the seventh form; the later family's looks); each row that meets fmt, with fmt's text TOLD by the authors' own Lean function (tested against real Go, not proved from fmt's source: count such statements apart). THE CARD IS WHAT COUNTS. Prove the row's statement (the work); the ties are given (YtlekmfmkkcpbcaaDoorTie.lean); close each card by the builder's one call (the guide's Derived/Test/ToyasCard.lean, 'card_holds'). Laid BY PROGRAM, IN A SANDBOX (cutbox-door.mjs). By AI agents, Wed Nov 11 2026. No macro, syntax, notation, axiom, sorry.
-/
import Derived.Test.YtlekmfmkkcpbcaaDoorRows
import GoSem.ClaimSeven
namespace Go.Proofs.YtlekmfmkkcpbcaaDoor
namespace Rows

/-- THE TIED CARD OF 'tidingslaw16.GroupPlays'. -/
def groupPlaysCard : Claim7 := { stood := { row := groupPlaysRow, standIns := [], harness := (true, "86107061af9c5a7d8df32d9d3cd7c473e1fb86a1ca778b4b2d0ef411b007ffe7"), looks := false }, kinds := [], alts := [], laidByText := true, laidKinds := [.data, .pinned], laidTests := true, laidLooks := .later }
def GroupPlaysCardSaid : Prop := Claim7.holds Tryd.pinned (.plain (OpenSpec.ofChange groupPlaysSpec)) groupPlaysCard

/-- THE SECOND FORM's CARD OF 'tidingslaw16.GroupPlays'. -/
def groupPlaysUptoCard : Claim7 := { stood := { row := groupPlaysUptoRow, standIns := [], harness := (true, "86107061af9c5a7d8df32d9d3cd7c473e1fb86a1ca778b4b2d0ef411b007ffe7"), looks := false }, kinds := [], alts := [], laidByText := true, laidKinds := [.data, .pinned], laidTests := true, laidLooks := .later }
def GroupPlaysUptoCardSaid : Prop := Claim7.holds Tryd.pinned (.plain (OpenSpec.upto groupPlaysSpec)) groupPlaysUptoCard
end Rows
end Go.Proofs.YtlekmfmkkcpbcaaDoor
