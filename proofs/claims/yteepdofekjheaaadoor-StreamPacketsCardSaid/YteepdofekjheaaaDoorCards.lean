/-
  DERIVED. GIVEN WITH THE SEED: THE CARDS: each row of YteepdofekjheaaaDoorRows.lean that lists a variable, with what it lists TIED to the program's text (the seventh form; the later family's looks); each row that meets fmt, with fmt's text TOLD by the authors' own Lean function (tested against real Go, not proved from fmt's source: count such statements apart). THE CARD IS WHAT COUNTS. Prove the row's statement (the work); the ties are given (YteepdofekjheaaaDoorTie.lean); close each card by the builder's one call (the guide's Derived/Test/ToyasCard.lean, 'card_holds'). Laid BY PROGRAM, IN A SANDBOX (cutbox-door.mjs). By AI agents, Wed Nov 11 2026. No macro, syntax, notation, axiom, sorry.
-/
import Derived.Test.YteepdofekjheaaaDoorRows
import GoSem.ClaimSeven
namespace Go.Proofs.YteepdofekjheaaaDoor
namespace Rows

/-- THE TIED CARD OF 'tidingslaw13.StreamPackets'. -/
def streamPacketsCard : Claim7 := { stood := { row := streamPacketsRow, standIns := [], harness := (true, "23c73ec8e5c72346069bc3cd1f5f2b9235dee7130d7c4179600ab53e8c6857d3"), looks := true }, kinds := [], alts := [], laidByText := true, laidKinds := [.data, .sentinel, .pinned], laidTests := true, laidLooks := .later }
def StreamPacketsCardSaid : Prop := Claim7.holds Tryd.pinned (.plain (OpenSpec.ofChange streamPacketsSpec)) streamPacketsCard

/-- THE SECOND FORM's CARD OF 'tidingslaw13.StreamPackets'. -/
def streamPacketsUptoCard : Claim7 := { stood := { row := streamPacketsUptoRow, standIns := [], harness := (true, "23c73ec8e5c72346069bc3cd1f5f2b9235dee7130d7c4179600ab53e8c6857d3"), looks := true }, kinds := [], alts := [], laidByText := true, laidKinds := [.data, .sentinel, .pinned], laidTests := true, laidLooks := .later }
def StreamPacketsUptoCardSaid : Prop := Claim7.holds Tryd.pinned (.plain (OpenSpec.upto streamPacketsSpec)) streamPacketsUptoCard
end Rows
end Go.Proofs.YteepdofekjheaaaDoor
