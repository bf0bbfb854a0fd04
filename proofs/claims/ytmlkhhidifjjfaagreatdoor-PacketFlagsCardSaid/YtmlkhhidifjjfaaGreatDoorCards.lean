/-
  DERIVED. GIVEN WITH THE SEED: THE CARDS: each row of YtmlkhhidifjjfaaGreatDoorRows.lean that lists a variable, with what it lists TIED to the program's text (the seventh form; the later family's looks); each row that meets fmt, with fmt's text TOLD by the authors' own Lean function (tested against real Go, not proved from fmt's source: count such statements apart). THE CARD IS WHAT COUNTS. Prove the row's statement (the work); the ties are given (YtmlkhhidifjjfaaGreatDoorTie.lean); close each card by the builder's one call (the guide's Derived/Test/ToyasCard.lean, 'card_holds'). Laid BY PROGRAM, IN A SANDBOX (cutbox-door.mjs). By AI agents, Wed Nov 11 2026. No macro, syntax, notation, axiom, sorry.
-/
import Derived.Test.YtmlkhhidifjjfaaGreatDoorRows
import GoSem.ClaimSeven
namespace Go.Proofs.YtmlkhhidifjjfaaGreatDoor
namespace Rows

/-- THE TIED CARD OF 'tidingslaw12.PacketReads'. -/
def packetReadsCard : Claim7 := { stood := { row := packetReadsRow, standIns := [], harness := (true, "331dd3a0b79ef44b05c0ee96e758b8d7495e3b8f63724ee045b5c079dda20336"), looks := true }, kinds := [], alts := [], laidByText := true, laidKinds := [.data, .sentinel, .pinned], laidTests := true, laidLooks := .later }
def PacketReadsCardSaid : Prop := Claim7.holds Tryz.pinned (.plain (OpenSpec.ofChange packetReadsSpec)) packetReadsCard

/-- THE TIED CARD OF 'tidingslaw12.PacketLays'. -/
def packetLaysCard : Claim7 := { stood := { row := packetLaysRow, standIns := [], harness := (true, "331dd3a0b79ef44b05c0ee96e758b8d7495e3b8f63724ee045b5c079dda20336"), looks := true }, kinds := [], alts := [], laidByText := true, laidKinds := [.data, .sentinel, .pinned], laidTests := true, laidLooks := .later }
def PacketLaysCardSaid : Prop := Claim7.holds Tryz.pinned (.plain (OpenSpec.ofChange packetLaysSpec)) packetLaysCard

/-- THE TIED CARD OF 'tidingslaw12.PacketFlags'. -/
def packetFlagsCard : Claim7 := { stood := { row := packetFlagsRow, standIns := [], harness := (true, "331dd3a0b79ef44b05c0ee96e758b8d7495e3b8f63724ee045b5c079dda20336"), looks := true }, kinds := [], alts := [], laidByText := true, laidKinds := [.data, .sentinel, .pinned], laidTests := true, laidLooks := .later }
def PacketFlagsCardSaid : Prop := Claim7.holds Tryz.pinned (.plain (OpenSpec.ofChange packetFlagsSpec)) packetFlagsCard

/-- THE SECOND FORM's CARD OF 'tidingslaw12.PacketReads'. -/
def packetReadsUptoCard : Claim7 := { stood := { row := packetReadsUptoRow, standIns := [], harness := (true, "331dd3a0b79ef44b05c0ee96e758b8d7495e3b8f63724ee045b5c079dda20336"), looks := true }, kinds := [], alts := [], laidByText := true, laidKinds := [.data, .sentinel, .pinned], laidTests := true, laidLooks := .later }
def PacketReadsUptoCardSaid : Prop := Claim7.holds Tryz.pinned (.plain (OpenSpec.upto packetReadsSpec)) packetReadsUptoCard

/-- THE SECOND FORM's CARD OF 'tidingslaw12.PacketLays'. -/
def packetLaysUptoCard : Claim7 := { stood := { row := packetLaysUptoRow, standIns := [], harness := (true, "331dd3a0b79ef44b05c0ee96e758b8d7495e3b8f63724ee045b5c079dda20336"), looks := true }, kinds := [], alts := [], laidByText := true, laidKinds := [.data, .sentinel, .pinned], laidTests := true, laidLooks := .later }
def PacketLaysUptoCardSaid : Prop := Claim7.holds Tryz.pinned (.plain (OpenSpec.upto packetLaysSpec)) packetLaysUptoCard

/-- THE SECOND FORM's CARD OF 'tidingslaw12.PacketFlags'. -/
def packetFlagsUptoCard : Claim7 := { stood := { row := packetFlagsUptoRow, standIns := [], harness := (true, "331dd3a0b79ef44b05c0ee96e758b8d7495e3b8f63724ee045b5c079dda20336"), looks := true }, kinds := [], alts := [], laidByText := true, laidKinds := [.data, .sentinel, .pinned], laidTests := true, laidLooks := .later }
def PacketFlagsUptoCardSaid : Prop := Claim7.holds Tryz.pinned (.plain (OpenSpec.upto packetFlagsSpec)) packetFlagsUptoCard
end Rows
end Go.Proofs.YtmlkhhidifjjfaaGreatDoor
