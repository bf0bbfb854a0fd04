/-
  DERIVED. GIVEN WITH THE SEED: THE CARDS: each row of YtfhocpplckoodaaGreatDoorRows.lean that lists a variable, with what it lists TIED to the program's text (the seventh form; the later family's looks); each row that meets fmt, with fmt's text TOLD by the authors' own Lean function (tested against real Go, not proved from fmt's source: count such statements apart). THE CARD IS WHAT COUNTS. Prove the row's statement (the work); the ties are given (YtfhocpplckoodaaGreatDoorTie.lean); close each card by the builder's one call (the guide's Derived/Test/ToyasCard.lean, 'card_holds'). Laid BY PROGRAM, IN A SANDBOX (cutbox-door.mjs). By AI agents, Wed Nov 11 2026. No macro, syntax, notation, axiom, sorry.
-/
import Derived.Test.YtfhocpplckoodaaGreatDoorRows
import GoSem.ClaimSeven
namespace Go.Proofs.YtfhocpplckoodaaGreatDoor
namespace Rows

/-- THE TIED CARD OF 'tidingslaw25.LinkOver'. -/
def linkOverCard : Claim7 := { stood := { row := linkOverRow, standIns := [], harness := (true, "58349dc21a8f825244ad2f98f7db0cde6ea0fcb0370a95263843858fad8543be"), looks := true }, kinds := [], alts := [], laidByText := true, laidKinds := [.data, .data, .data, .data, .sentinel, .sentinel, .sentinel, .pinned], laidTests := true, laidLooks := .later }
def LinkOverCardSaid : Prop := Claim7.holds Tryz.pinned (.plain (OpenSpec.ofChange linkOverSpec)) linkOverCard

/-- THE SECOND FORM's CARD OF 'tidingslaw25.LinkOver'. -/
def linkOverUptoCard : Claim7 := { stood := { row := linkOverUptoRow, standIns := [], harness := (true, "58349dc21a8f825244ad2f98f7db0cde6ea0fcb0370a95263843858fad8543be"), looks := true }, kinds := [], alts := [], laidByText := true, laidKinds := [.data, .data, .data, .data, .sentinel, .sentinel, .sentinel, .pinned], laidTests := true, laidLooks := .later }
def LinkOverUptoCardSaid : Prop := Claim7.holds Tryz.pinned (.plain (OpenSpec.upto linkOverSpec)) linkOverUptoCard
end Rows
end Go.Proofs.YtfhocpplckoodaaGreatDoor
