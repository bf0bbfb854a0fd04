/-
  DERIVED. GIVEN WITH THE SEED: THE CARDS: each row of YtmlkhhidifjjfaaDoorRows.lean that lists a variable, with what it lists TIED to the program's text (the seventh form; the later family's looks); each row that meets fmt, with fmt's text TOLD by the authors' own Lean function (tested against real Go, not proved from fmt's source: count such statements apart). THE CARD IS WHAT COUNTS. Prove the row's statement (the work); the ties are given (YtmlkhhidifjjfaaDoorTie.lean); close each card by the builder's one call (the guide's Derived/Test/ToyasCard.lean, 'card_holds'). Laid BY PROGRAM, IN A SANDBOX (cutbox-door.mjs). By AI agents, Wed Nov 11 2026. No macro, syntax, notation, axiom, sorry.
-/
import Derived.Test.YtmlkhhidifjjfaaDoorRows
import GoSem.ClaimSeven
namespace Go.Proofs.YtmlkhhidifjjfaaDoor
namespace Rows

/-- THE TIED CARD OF 'tidingslaw19.NoteBytes'. -/
def noteBytesCard : Claim7 := { stood := { row := noteBytesRow, standIns := [], harness := (true, "47a89f3cd85d65b49172794a6573fb63269d00c369b5a2b01f74e4cbaa31bbc5"), looks := true }, kinds := [], alts := [], laidByText := true, laidKinds := [.data, .pinned], laidTests := true, laidLooks := .later }
def NoteBytesCardSaid : Prop := Claim7.holds Tryd.pinned (.plain (OpenSpec.ofChange noteBytesSpec)) noteBytesCard

/-- THE TIED CARD OF 'tidingslaw19.NoteBack'. -/
def noteBackCard : Claim7 := { stood := { row := noteBackRow, standIns := [], harness := (true, "47a89f3cd85d65b49172794a6573fb63269d00c369b5a2b01f74e4cbaa31bbc5"), looks := true }, kinds := [], alts := [], laidByText := true, laidKinds := [.data, .pinned], laidTests := true, laidLooks := .later }
def NoteBackCardSaid : Prop := Claim7.holds Tryd.pinned (.plain (OpenSpec.ofChange noteBackSpec)) noteBackCard

/-- THE TIED CARD OF 'tidingslaw12.PacketBack'. -/
def packetBackCard : Claim7 := { stood := { row := packetBackRow, standIns := [], harness := (true, "47a89f3cd85d65b49172794a6573fb63269d00c369b5a2b01f74e4cbaa31bbc5"), looks := true }, kinds := [], alts := [], laidByText := true, laidKinds := [.data, .sentinel, .pinned], laidTests := true, laidLooks := .later }
def PacketBackCardSaid : Prop := Claim7.holds Tryd.pinned (.plain (OpenSpec.ofChange packetBackSpec)) packetBackCard

/-- THE TIED CARD OF 'tidingslaw12.PacketShort'. -/
def packetShortCard : Claim7 := { stood := { row := packetShortRow, standIns := [], harness := (true, "47a89f3cd85d65b49172794a6573fb63269d00c369b5a2b01f74e4cbaa31bbc5"), looks := true }, kinds := [], alts := [], laidByText := true, laidKinds := [.data, .sentinel, .pinned], laidTests := true, laidLooks := .later }
def PacketShortCardSaid : Prop := Claim7.holds Tryd.pinned (.plain (OpenSpec.ofChange packetShortSpec)) packetShortCard

/-- THE TIED CARD OF 'tidingslaw12.PacketMore'. -/
def packetMoreCard : Claim7 := { stood := { row := packetMoreRow, standIns := [], harness := (true, "47a89f3cd85d65b49172794a6573fb63269d00c369b5a2b01f74e4cbaa31bbc5"), looks := true }, kinds := [], alts := [], laidByText := true, laidKinds := [.data, .sentinel, .pinned], laidTests := true, laidLooks := .later }
def PacketMoreCardSaid : Prop := Claim7.holds Tryd.pinned (.plain (OpenSpec.ofChange packetMoreSpec)) packetMoreCard

/-- THE TIED CARD OF 'tidingslaw12.PacketOnce'. -/
def packetOnceCard : Claim7 := { stood := { row := packetOnceRow, standIns := [], harness := (true, "47a89f3cd85d65b49172794a6573fb63269d00c369b5a2b01f74e4cbaa31bbc5"), looks := true }, kinds := [], alts := [], laidByText := true, laidKinds := [.data, .sentinel, .pinned], laidTests := true, laidLooks := .later }
def PacketOnceCardSaid : Prop := Claim7.holds Tryd.pinned (.plain (OpenSpec.ofChange packetOnceSpec)) packetOnceCard

/-- THE TIED CARD OF 'tidingslaw12.PacketCodes'. -/
def packetCodesCard : Claim7 := { stood := { row := packetCodesRow, standIns := [], harness := (true, "47a89f3cd85d65b49172794a6573fb63269d00c369b5a2b01f74e4cbaa31bbc5"), looks := true }, kinds := [], alts := [], laidByText := true, laidKinds := [.data, .sentinel, .pinned], laidTests := true, laidLooks := .later }
def PacketCodesCardSaid : Prop := Claim7.holds Tryd.pinned (.plain (OpenSpec.ofChange packetCodesSpec)) packetCodesCard

/-- THE TIED CARD OF 'tidingslaw12.PacketProps'. -/
def packetPropsCard : Claim7 := { stood := { row := packetPropsRow, standIns := [], harness := (true, "47a89f3cd85d65b49172794a6573fb63269d00c369b5a2b01f74e4cbaa31bbc5"), looks := true }, kinds := [], alts := [], laidByText := true, laidKinds := [.data, .sentinel, .pinned], laidTests := true, laidLooks := .later }
def PacketPropsCardSaid : Prop := Claim7.holds Tryd.pinned (.plain (OpenSpec.ofChange packetPropsSpec)) packetPropsCard

/-- THE TIED CARD OF 'tidingslaw19.NoteLasts'. -/
def noteLastsCard : Claim7 := { stood := { row := noteLastsRow, standIns := [], harness := (true, "47a89f3cd85d65b49172794a6573fb63269d00c369b5a2b01f74e4cbaa31bbc5"), looks := true }, kinds := [], alts := [], laidByText := true, laidKinds := [.data, .sentinel, .pinned], laidTests := true, laidLooks := .later }
def NoteLastsCardSaid : Prop := Claim7.holds Tryd.pinned (.plain (OpenSpec.ofChange noteLastsSpec)) noteLastsCard

/-- THE SECOND FORM's CARD OF 'tidingslaw19.NoteBytes'. -/
def noteBytesUptoCard : Claim7 := { stood := { row := noteBytesUptoRow, standIns := [], harness := (true, "47a89f3cd85d65b49172794a6573fb63269d00c369b5a2b01f74e4cbaa31bbc5"), looks := true }, kinds := [], alts := [], laidByText := true, laidKinds := [.data, .pinned], laidTests := true, laidLooks := .later }
def NoteBytesUptoCardSaid : Prop := Claim7.holds Tryd.pinned (.plain (OpenSpec.upto noteBytesSpec)) noteBytesUptoCard

/-- THE SECOND FORM's CARD OF 'tidingslaw19.NoteBack'. -/
def noteBackUptoCard : Claim7 := { stood := { row := noteBackUptoRow, standIns := [], harness := (true, "47a89f3cd85d65b49172794a6573fb63269d00c369b5a2b01f74e4cbaa31bbc5"), looks := true }, kinds := [], alts := [], laidByText := true, laidKinds := [.data, .pinned], laidTests := true, laidLooks := .later }
def NoteBackUptoCardSaid : Prop := Claim7.holds Tryd.pinned (.plain (OpenSpec.upto noteBackSpec)) noteBackUptoCard

/-- THE SECOND FORM's CARD OF 'tidingslaw12.PacketBack'. -/
def packetBackUptoCard : Claim7 := { stood := { row := packetBackUptoRow, standIns := [], harness := (true, "47a89f3cd85d65b49172794a6573fb63269d00c369b5a2b01f74e4cbaa31bbc5"), looks := true }, kinds := [], alts := [], laidByText := true, laidKinds := [.data, .sentinel, .pinned], laidTests := true, laidLooks := .later }
def PacketBackUptoCardSaid : Prop := Claim7.holds Tryd.pinned (.plain (OpenSpec.upto packetBackSpec)) packetBackUptoCard

/-- THE SECOND FORM's CARD OF 'tidingslaw12.PacketShort'. -/
def packetShortUptoCard : Claim7 := { stood := { row := packetShortUptoRow, standIns := [], harness := (true, "47a89f3cd85d65b49172794a6573fb63269d00c369b5a2b01f74e4cbaa31bbc5"), looks := true }, kinds := [], alts := [], laidByText := true, laidKinds := [.data, .sentinel, .pinned], laidTests := true, laidLooks := .later }
def PacketShortUptoCardSaid : Prop := Claim7.holds Tryd.pinned (.plain (OpenSpec.upto packetShortSpec)) packetShortUptoCard

/-- THE SECOND FORM's CARD OF 'tidingslaw12.PacketMore'. -/
def packetMoreUptoCard : Claim7 := { stood := { row := packetMoreUptoRow, standIns := [], harness := (true, "47a89f3cd85d65b49172794a6573fb63269d00c369b5a2b01f74e4cbaa31bbc5"), looks := true }, kinds := [], alts := [], laidByText := true, laidKinds := [.data, .sentinel, .pinned], laidTests := true, laidLooks := .later }
def PacketMoreUptoCardSaid : Prop := Claim7.holds Tryd.pinned (.plain (OpenSpec.upto packetMoreSpec)) packetMoreUptoCard

/-- THE SECOND FORM's CARD OF 'tidingslaw12.PacketOnce'. -/
def packetOnceUptoCard : Claim7 := { stood := { row := packetOnceUptoRow, standIns := [], harness := (true, "47a89f3cd85d65b49172794a6573fb63269d00c369b5a2b01f74e4cbaa31bbc5"), looks := true }, kinds := [], alts := [], laidByText := true, laidKinds := [.data, .sentinel, .pinned], laidTests := true, laidLooks := .later }
def PacketOnceUptoCardSaid : Prop := Claim7.holds Tryd.pinned (.plain (OpenSpec.upto packetOnceSpec)) packetOnceUptoCard

/-- THE SECOND FORM's CARD OF 'tidingslaw12.PacketCodes'. -/
def packetCodesUptoCard : Claim7 := { stood := { row := packetCodesUptoRow, standIns := [], harness := (true, "47a89f3cd85d65b49172794a6573fb63269d00c369b5a2b01f74e4cbaa31bbc5"), looks := true }, kinds := [], alts := [], laidByText := true, laidKinds := [.data, .sentinel, .pinned], laidTests := true, laidLooks := .later }
def PacketCodesUptoCardSaid : Prop := Claim7.holds Tryd.pinned (.plain (OpenSpec.upto packetCodesSpec)) packetCodesUptoCard

/-- THE SECOND FORM's CARD OF 'tidingslaw12.PacketProps'. -/
def packetPropsUptoCard : Claim7 := { stood := { row := packetPropsUptoRow, standIns := [], harness := (true, "47a89f3cd85d65b49172794a6573fb63269d00c369b5a2b01f74e4cbaa31bbc5"), looks := true }, kinds := [], alts := [], laidByText := true, laidKinds := [.data, .sentinel, .pinned], laidTests := true, laidLooks := .later }
def PacketPropsUptoCardSaid : Prop := Claim7.holds Tryd.pinned (.plain (OpenSpec.upto packetPropsSpec)) packetPropsUptoCard

/-- THE SECOND FORM's CARD OF 'tidingslaw19.NoteLasts'. -/
def noteLastsUptoCard : Claim7 := { stood := { row := noteLastsUptoRow, standIns := [], harness := (true, "47a89f3cd85d65b49172794a6573fb63269d00c369b5a2b01f74e4cbaa31bbc5"), looks := true }, kinds := [], alts := [], laidByText := true, laidKinds := [.data, .sentinel, .pinned], laidTests := true, laidLooks := .later }
def NoteLastsUptoCardSaid : Prop := Claim7.holds Tryd.pinned (.plain (OpenSpec.upto noteLastsSpec)) noteLastsUptoCard
end Rows
end Go.Proofs.YtmlkhhidifjjfaaDoor
