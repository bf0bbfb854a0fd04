/-
  DERIVED. GIVEN WITH THE SEED: THE CARDS: each row of YtjhabjdfhmbanaaGreatDoorRows.lean that lists a variable, with what it lists TIED to the program's text (the seventh form; the later family's looks); each row that meets fmt, with fmt's text TOLD by the authors' own Lean function (tested against real Go, not proved from fmt's source: count such statements apart). THE CARD IS WHAT COUNTS. Prove the row's statement (the work); the ties are given (YtjhabjdfhmbanaaGreatDoorTie.lean); close each card by the builder's one call (the guide's Derived/Test/ToyasCard.lean, 'card_holds'). Laid BY PROGRAM, IN A SANDBOX (cutbox-door.mjs). By AI agents, Wed Nov 11 2026. No macro, syntax, notation, axiom, sorry.
-/
import Derived.Test.YtjhabjdfhmbanaaGreatDoorRows
import GoSem.ClaimSeven
namespace Go.Proofs.YtjhabjdfhmbanaaGreatDoor
namespace Rows

/-- THE TIED CARD OF 'tidingslaw12.PacketReads'. -/
def packetReadsCard : Claim7 := { stood := { row := packetReadsRow, standIns := [], harness := (true, "a8e2b179b6c3245e17373785a93be89e9cdae7a40f04802637ac64fe47b177b3"), looks := true }, kinds := [], alts := [], laidByText := true, laidKinds := [.data, .sentinel, .pinned], laidTests := true, laidLooks := .later }
def PacketReadsCardSaid : Prop := Claim7.holds Tryz.pinned (.plain (OpenSpec.ofChange packetReadsSpec)) packetReadsCard

/-- THE TIED CARD OF 'tidingslaw12.PacketLays'. -/
def packetLaysCard : Claim7 := { stood := { row := packetLaysRow, standIns := [], harness := (true, "a8e2b179b6c3245e17373785a93be89e9cdae7a40f04802637ac64fe47b177b3"), looks := true }, kinds := [], alts := [], laidByText := true, laidKinds := [.data, .sentinel, .pinned], laidTests := true, laidLooks := .later }
def PacketLaysCardSaid : Prop := Claim7.holds Tryz.pinned (.plain (OpenSpec.ofChange packetLaysSpec)) packetLaysCard

/-- THE SECOND FORM's CARD OF 'tidingslaw12.PacketReads'. -/
def packetReadsUptoCard : Claim7 := { stood := { row := packetReadsUptoRow, standIns := [], harness := (true, "a8e2b179b6c3245e17373785a93be89e9cdae7a40f04802637ac64fe47b177b3"), looks := true }, kinds := [], alts := [], laidByText := true, laidKinds := [.data, .sentinel, .pinned], laidTests := true, laidLooks := .later }
def PacketReadsUptoCardSaid : Prop := Claim7.holds Tryz.pinned (.plain (OpenSpec.upto packetReadsSpec)) packetReadsUptoCard

/-- THE SECOND FORM's CARD OF 'tidingslaw12.PacketLays'. -/
def packetLaysUptoCard : Claim7 := { stood := { row := packetLaysUptoRow, standIns := [], harness := (true, "a8e2b179b6c3245e17373785a93be89e9cdae7a40f04802637ac64fe47b177b3"), looks := true }, kinds := [], alts := [], laidByText := true, laidKinds := [.data, .sentinel, .pinned], laidTests := true, laidLooks := .later }
def PacketLaysUptoCardSaid : Prop := Claim7.holds Tryz.pinned (.plain (OpenSpec.upto packetLaysSpec)) packetLaysUptoCard
end Rows
end Go.Proofs.YtjhabjdfhmbanaaGreatDoor
