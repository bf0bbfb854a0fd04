/-
  DERIVED. GIVEN WITH THE SEED: THE CARDS: each row of YtbcbhgbffjkheaaDoorRows.lean that lists a variable, with what it lists TIED to the program's text (the seventh form; the later family's looks); each row that meets fmt, with fmt's text TOLD by the authors' own Lean function (tested against real Go, not proved from fmt's source: count such statements apart). THE CARD IS WHAT COUNTS. Prove the row's statement (the work); the ties are given (YtbcbhgbffjkheaaDoorTie.lean); close each card by the builder's one call (the guide's Derived/Test/ToyasCard.lean, 'card_holds'). Laid BY PROGRAM, IN A SANDBOX (cutbox-door.mjs). By AI agents, Wed Nov 11 2026. No macro, syntax, notation, axiom, sorry.
-/
import Derived.Test.YtbcbhgbffjkheaaDoorRows
import GoSem.ClaimSeven
namespace Go.Proofs.YtbcbhgbffjkheaaDoor
namespace Rows

/-- THE TIED CARD OF 'tidingslaw19.NoteBytes'. -/
def noteBytesCard : Claim7 := { stood := { row := noteBytesRow, standIns := [], harness := (true, "016db9148796c33123a6bda470afbe55cd759e0e3d946ea932c5c46d1164574e"), looks := false }, kinds := [], alts := [], laidByText := true, laidKinds := [.data, .pinned], laidTests := true, laidLooks := .later }
def NoteBytesCardSaid : Prop := Claim7.holds Tryd.pinned (.plain (OpenSpec.ofChange noteBytesSpec)) noteBytesCard

/-- THE SECOND FORM's CARD OF 'tidingslaw19.NoteBytes'. -/
def noteBytesUptoCard : Claim7 := { stood := { row := noteBytesUptoRow, standIns := [], harness := (true, "016db9148796c33123a6bda470afbe55cd759e0e3d946ea932c5c46d1164574e"), looks := false }, kinds := [], alts := [], laidByText := true, laidKinds := [.data, .pinned], laidTests := true, laidLooks := .later }
def NoteBytesUptoCardSaid : Prop := Claim7.holds Tryd.pinned (.plain (OpenSpec.upto noteBytesSpec)) noteBytesUptoCard
end Rows
end Go.Proofs.YtbcbhgbffjkheaaDoor
