/-
  DERIVED. GIVEN WITH THE SEED: THE CARDS: each row of YthfdocdjpdkmoaaGreatDoorRows.lean that lists a variable, with what it lists TIED to the program's text (the seventh form; the later family's looks); each row that meets fmt, with fmt's text TOLD by the authors' own Lean function (tested against real Go, not proved from fmt's source: count such statements apart). THE CARD IS WHAT COUNTS. Prove the row's statement (the work); the ties are given (YthfdocdjpdkmoaaGreatDoorTie.lean); close each card by the builder's one call (the guide's Derived/Test/ToyasCard.lean, 'card_holds'). Laid BY PROGRAM, IN A SANDBOX (cutbox-door.mjs). By AI agents, Wed Nov 11 2026. No macro, syntax, notation, axiom, sorry.
-/
import Derived.Test.YthfdocdjpdkmoaaGreatDoorRows
import GoSem.ClaimSeven
namespace Go.Proofs.YthfdocdjpdkmoaaGreatDoor
namespace Rows

/-- THE TIED CARD OF 'tidingslaw23.ConnAnswers'. -/
def connAnswersCard : Claim7 := { stood := { row := connAnswersRow, standIns := [], harness := (true, "b832b526045747c428c530ab5d40504d1091b2b12733a6fe391c826e4dddb104"), looks := true }, kinds := [], alts := [], laidByText := true, laidKinds := [.data, .sentinel, .pinned], laidTests := true, laidLooks := .later }
def ConnAnswersCardSaid : Prop := Claim7.holds Tryz.pinned (.plain (OpenSpec.ofChange connAnswersSpec)) connAnswersCard

/-- THE SECOND FORM's CARD OF 'tidingslaw23.ConnAnswers'. -/
def connAnswersUptoCard : Claim7 := { stood := { row := connAnswersUptoRow, standIns := [], harness := (true, "b832b526045747c428c530ab5d40504d1091b2b12733a6fe391c826e4dddb104"), looks := true }, kinds := [], alts := [], laidByText := true, laidKinds := [.data, .sentinel, .pinned], laidTests := true, laidLooks := .later }
def ConnAnswersUptoCardSaid : Prop := Claim7.holds Tryz.pinned (.plain (OpenSpec.upto connAnswersSpec)) connAnswersUptoCard
end Rows
end Go.Proofs.YthfdocdjpdkmoaaGreatDoor
