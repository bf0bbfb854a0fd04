/-
  DERIVED. GIVEN WITH THE SEED: THE CARDS: each row of YtagamgebijflnaaDoorRows.lean that lists a variable, with what it lists TIED to the program's text (the seventh form; the later family's looks); each row that meets fmt, with fmt's text TOLD by the authors' own Lean function (tested against real Go, not proved from fmt's source: count such statements apart). THE CARD IS WHAT COUNTS. Prove the row's statement (the work); the ties are given (YtagamgebijflnaaDoorTie.lean); close each card by the builder's one call (the guide's Derived/Test/ToyasCard.lean, 'card_holds'). Laid BY PROGRAM, IN A SANDBOX (cutbox-door.mjs). By AI agents, Wed Nov 11 2026. No macro, syntax, notation, axiom, sorry.
-/
import Derived.Test.YtagamgebijflnaaDoorRows
import GoSem.ClaimSeven
namespace Go.Proofs.YtagamgebijflnaaDoor
namespace Rows

/-- THE TIED CARD OF 'tidingslaw16.GroupFair'. -/
def groupFairCard : Claim7 := { stood := { row := groupFairRow, standIns := [], harness := (true, "5826cbaf6b1b9c522b02f4e46d941f97afb16f915cfcbaf2fcf2f75a377f67c1"), looks := false }, kinds := [], alts := [], laidByText := true, laidKinds := [.data, .pinned], laidTests := true, laidLooks := .later }
def GroupFairCardSaid : Prop := Claim7.holds Tryd.pinned (.plain (OpenSpec.ofChange groupFairSpec)) groupFairCard

/-- THE TIED CARD OF 'tidingslaw16.GroupTwice'. -/
def groupTwiceCard : Claim7 := { stood := { row := groupTwiceRow, standIns := [], harness := (true, "5826cbaf6b1b9c522b02f4e46d941f97afb16f915cfcbaf2fcf2f75a377f67c1"), looks := false }, kinds := [], alts := [], laidByText := true, laidKinds := [.data, .pinned], laidTests := true, laidLooks := .later }
def GroupTwiceCardSaid : Prop := Claim7.holds Tryd.pinned (.plain (OpenSpec.ofChange groupTwiceSpec)) groupTwiceCard

/-- THE SECOND FORM's CARD OF 'tidingslaw16.GroupFair'. -/
def groupFairUptoCard : Claim7 := { stood := { row := groupFairUptoRow, standIns := [], harness := (true, "5826cbaf6b1b9c522b02f4e46d941f97afb16f915cfcbaf2fcf2f75a377f67c1"), looks := false }, kinds := [], alts := [], laidByText := true, laidKinds := [.data, .pinned], laidTests := true, laidLooks := .later }
def GroupFairUptoCardSaid : Prop := Claim7.holds Tryd.pinned (.plain (OpenSpec.upto groupFairSpec)) groupFairUptoCard

/-- THE SECOND FORM's CARD OF 'tidingslaw16.GroupTwice'. -/
def groupTwiceUptoCard : Claim7 := { stood := { row := groupTwiceUptoRow, standIns := [], harness := (true, "5826cbaf6b1b9c522b02f4e46d941f97afb16f915cfcbaf2fcf2f75a377f67c1"), looks := false }, kinds := [], alts := [], laidByText := true, laidKinds := [.data, .pinned], laidTests := true, laidLooks := .later }
def GroupTwiceUptoCardSaid : Prop := Claim7.holds Tryd.pinned (.plain (OpenSpec.upto groupTwiceSpec)) groupTwiceUptoCard
end Rows
end Go.Proofs.YtagamgebijflnaaDoor
