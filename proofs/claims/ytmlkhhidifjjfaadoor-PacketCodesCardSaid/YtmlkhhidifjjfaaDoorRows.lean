/-
  NARROWER THAN 'FOR EVERY INPUT', by the rows' own cells (each row's printed sentence says how): NoteBytes: laid · NoteBack: laid · PacketBack: laid · PacketShort: laid · PacketMore: laid · PacketOnce: laid · PacketCodes: laid · PacketProps: laid · NoteLasts: laid.
  DERIVED. THE GIVEN ROWS OF THIS SEAT. 9 by the template 'for every input the law returns true; each argument reads behind the call as it read before'; 0 by the template 'total and deterministic' (their statements: YtmlkhhidifjjfaaDoorTotals.lean).
  GIVEN WITH THE SEED: the statements are not yours to turn. If you find one false, say at which input.
  Laid BY PROGRAM, IN A SANDBOX (cutbox-rows.mjs): the forced cells as the released guide's own fill.sh prints them over the translation 98c4f8d59c32b824… (all of the seat's roots in one cut). By AI agents, Wed Nov 11 2026. No macro, syntax, notation, axiom, sorry.
-/
import Derived.Test.YtmlkhhidifjjfaaDoorChecked
import GoSem.PinnedTables
import GoSem.Claim
import GoSem.ClaimJoined
import GoSem.ClaimMapViews
import Derived.JoinedTies
import Derived.KernelRfl
namespace Go.Proofs.YtmlkhhidifjjfaaDoor
/- THE CELL 'sum', in the pinned program and in every row, IS THE sha256 OF THE DUMP (.gsa) THAT YtmlkhhidifjjfaaDoorProg.lean LOADS. Nothing in Lean hashes anything: it is a label: what it is worth is what the hold of that sum in a sandbox is worth. -/
noncomputable def Tryd.pinned : Pinned := { name := "ytmlkhhidifjjfaadoor", sum := "98c4f8d59c32b824c3b37fcb8bb25b82ad45b4e76396cdc5ce1c8e3c54dec06d", checked := Tryd.checked }
namespace Rows
def none {H : Type} : Left H := { results := [], args := [] }

/- WHAT THE LISTED PACKAGE-LEVEL VARIABLES READ AS WHEN THE CALL BEGINS. Each datum BY PROGRAM (the guide's laid-datum.mjs) off the statement by which the dump's own 'gosem.cut.vars' lays the variable. In a bare row this is a premise. The card (YtmlkhhidifjjfaaDoorCards.lean) ties it to the program's text. -/
def laid_unicode_utf8_acceptRanges {H : Type} : DataW H := .agg [.agg [.lit (.int .u8 128), .lit (.int .u8 191)], .agg [.lit (.int .u8 160), .lit (.int .u8 191)], .agg [.lit (.int .u8 128), .lit (.int .u8 159)], .agg [.lit (.int .u8 144), .lit (.int .u8 191)], .agg [.lit (.int .u8 128), .lit (.int .u8 143)], .agg [.lit (.int .u8 0), .lit (.int .u8 0)], .agg [.lit (.int .u8 0), .lit (.int .u8 0)], .agg [.lit (.int .u8 0), .lit (.int .u8 0)], .agg [.lit (.int .u8 0), .lit (.int .u8 0)], .agg [.lit (.int .u8 0), .lit (.int .u8 0)], .agg [.lit (.int .u8 0), .lit (.int .u8 0)], .agg [.lit (.int .u8 0), .lit (.int .u8 0)], .agg [.lit (.int .u8 0), .lit (.int .u8 0)], .agg [.lit (.int .u8 0), .lit (.int .u8 0)], .agg [.lit (.int .u8 0), .lit (.int .u8 0)], .agg [.lit (.int .u8 0), .lit (.int .u8 0)]]
/-- One of Go's own tables, pinned by name: the form's constant. -/
def laid_unicode_utf8_first : DataW Unit := Go.Pinned.utf8First
def laid_bytes_ErrTooLarge {H : Type} : DataW H := .iface "*errors.errorString" (.ptr (.agg [.lit (.string [98, 121, 116, 101, 115, 46, 66, 117, 102, 102, 101, 114, 58, 32, 116, 111, 111, 32, 108, 97, 114, 103, 101])]))

/-- 'tidingslaw19.NoteBytes': WHATEVER THE INPUT: true; the input reads as it did. -/
def noteBytesSpec : ChangeSpec := { name := "noteBytes", fn := fun _ => fun
  | [d1, d2, d3, d4] => { results := [.lit (.bool true)], args := [d1, d2, d3, d4] }
  | _ => none }
def noteBytesRow : OpenClaim := { program := "ytmlkhhidifjjfaadoor", sum := "98c4f8d59c32b824c3b37fcb8bb25b82ad45b4e76396cdc5ce1c8e3c54dec06d", func := "tidings/tidingslaw19.NoteBytes", spec := "noteBytes", unfollowed := true, recurses := true, named := ["unicode/utf8.first", "unicode/utf8.acceptRanges"], apart := false, laid := [("unicode/utf8.acceptRanges", laid_unicode_utf8_acceptRanges), ("unicode/utf8.first", laid_unicode_utf8_first)] }
def NoteBytesSaid : Prop := noteBytesRow.holds Tryd.pinned (OpenSpec.ofChange noteBytesSpec)

/-- ITS FALSE NEIGHBOUR: 'it returns false'. Refute it at one input. -/
def noteBytesWrong : ChangeSpec := { name := "noteBytes", fn := fun _ => fun
  | [d1, d2, d3, d4] => { results := [.lit (.bool false)], args := [d1, d2, d3, d4] }
  | _ => none }
def NoteBytesWrongFalsely : Prop := noteBytesRow.holds Tryd.pinned (OpenSpec.ofChange noteBytesWrong)

/-- 'tidingslaw19.NoteBack': WHATEVER THE INPUT: true; the input reads as it did. -/
def noteBackSpec : ChangeSpec := { name := "noteBack", fn := fun _ => fun
  | [d] => { results := [.lit (.bool true)], args := [d] }
  | _ => none }
def noteBackRow : OpenClaim := { program := "ytmlkhhidifjjfaadoor", sum := "98c4f8d59c32b824c3b37fcb8bb25b82ad45b4e76396cdc5ce1c8e3c54dec06d", func := "tidings/tidingslaw19.NoteBack", spec := "noteBack", unfollowed := true, recurses := true, named := ["unicode/utf8.first", "unicode/utf8.acceptRanges"], apart := false, laid := [("unicode/utf8.acceptRanges", laid_unicode_utf8_acceptRanges), ("unicode/utf8.first", laid_unicode_utf8_first)] }
def NoteBackSaid : Prop := noteBackRow.holds Tryd.pinned (OpenSpec.ofChange noteBackSpec)

/-- ITS FALSE NEIGHBOUR: 'it returns false'. Refute it at one input. -/
def noteBackWrong : ChangeSpec := { name := "noteBack", fn := fun _ => fun
  | [d] => { results := [.lit (.bool false)], args := [d] }
  | _ => none }
def NoteBackWrongFalsely : Prop := noteBackRow.holds Tryd.pinned (OpenSpec.ofChange noteBackWrong)

/-- 'tidingslaw12.PacketBack': WHATEVER THE INPUT: true; the input reads as it did. -/
def packetBackSpec : ChangeSpec := { name := "packetBack", fn := fun _ => fun
  | [d1, d2] => { results := [.lit (.bool true)], args := [d1, d2] }
  | _ => none }
def packetBackRow : OpenClaim := { program := "ytmlkhhidifjjfaadoor", sum := "98c4f8d59c32b824c3b37fcb8bb25b82ad45b4e76396cdc5ce1c8e3c54dec06d", func := "tidings/tidingslaw12.PacketBack", spec := "packetBack", unfollowed := true, recurses := true, named := ["unicode/utf8.first", "unicode/utf8.acceptRanges", "bytes.ErrTooLarge"], apart := false, laid := [("unicode/utf8.acceptRanges", laid_unicode_utf8_acceptRanges), ("bytes.ErrTooLarge", laid_bytes_ErrTooLarge), ("unicode/utf8.first", laid_unicode_utf8_first)] }
def PacketBackSaid : Prop := packetBackRow.holds Tryd.pinned (OpenSpec.ofChange packetBackSpec)

/-- ITS FALSE NEIGHBOUR: 'it returns false'. Refute it at one input. -/
def packetBackWrong : ChangeSpec := { name := "packetBack", fn := fun _ => fun
  | [d1, d2] => { results := [.lit (.bool false)], args := [d1, d2] }
  | _ => none }
def PacketBackWrongFalsely : Prop := packetBackRow.holds Tryd.pinned (OpenSpec.ofChange packetBackWrong)

/-- 'tidingslaw12.PacketShort': WHATEVER THE INPUT: true; the input reads as it did. -/
def packetShortSpec : ChangeSpec := { name := "packetShort", fn := fun _ => fun
  | [d1, d2] => { results := [.lit (.bool true)], args := [d1, d2] }
  | _ => none }
def packetShortRow : OpenClaim := { program := "ytmlkhhidifjjfaadoor", sum := "98c4f8d59c32b824c3b37fcb8bb25b82ad45b4e76396cdc5ce1c8e3c54dec06d", func := "tidings/tidingslaw12.PacketShort", spec := "packetShort", unfollowed := true, recurses := true, named := ["unicode/utf8.first", "unicode/utf8.acceptRanges", "bytes.ErrTooLarge"], apart := false, laid := [("unicode/utf8.acceptRanges", laid_unicode_utf8_acceptRanges), ("bytes.ErrTooLarge", laid_bytes_ErrTooLarge), ("unicode/utf8.first", laid_unicode_utf8_first)] }
def PacketShortSaid : Prop := packetShortRow.holds Tryd.pinned (OpenSpec.ofChange packetShortSpec)

/-- ITS FALSE NEIGHBOUR: 'it returns false'. Refute it at one input. -/
def packetShortWrong : ChangeSpec := { name := "packetShort", fn := fun _ => fun
  | [d1, d2] => { results := [.lit (.bool false)], args := [d1, d2] }
  | _ => none }
def PacketShortWrongFalsely : Prop := packetShortRow.holds Tryd.pinned (OpenSpec.ofChange packetShortWrong)

/-- 'tidingslaw12.PacketMore': WHATEVER THE INPUT: true; the input reads as it did. -/
def packetMoreSpec : ChangeSpec := { name := "packetMore", fn := fun _ => fun
  | [d1, d2] => { results := [.lit (.bool true)], args := [d1, d2] }
  | _ => none }
def packetMoreRow : OpenClaim := { program := "ytmlkhhidifjjfaadoor", sum := "98c4f8d59c32b824c3b37fcb8bb25b82ad45b4e76396cdc5ce1c8e3c54dec06d", func := "tidings/tidingslaw12.PacketMore", spec := "packetMore", unfollowed := true, recurses := true, named := ["unicode/utf8.first", "unicode/utf8.acceptRanges", "bytes.ErrTooLarge"], apart := false, laid := [("unicode/utf8.acceptRanges", laid_unicode_utf8_acceptRanges), ("bytes.ErrTooLarge", laid_bytes_ErrTooLarge), ("unicode/utf8.first", laid_unicode_utf8_first)] }
def PacketMoreSaid : Prop := packetMoreRow.holds Tryd.pinned (OpenSpec.ofChange packetMoreSpec)

/-- ITS FALSE NEIGHBOUR: 'it returns false'. Refute it at one input. -/
def packetMoreWrong : ChangeSpec := { name := "packetMore", fn := fun _ => fun
  | [d1, d2] => { results := [.lit (.bool false)], args := [d1, d2] }
  | _ => none }
def PacketMoreWrongFalsely : Prop := packetMoreRow.holds Tryd.pinned (OpenSpec.ofChange packetMoreWrong)

/-- 'tidingslaw12.PacketOnce': WHATEVER THE INPUT: true; the input reads as it did. -/
def packetOnceSpec : ChangeSpec := { name := "packetOnce", fn := fun _ => fun
  | [d1, d2] => { results := [.lit (.bool true)], args := [d1, d2] }
  | _ => none }
def packetOnceRow : OpenClaim := { program := "ytmlkhhidifjjfaadoor", sum := "98c4f8d59c32b824c3b37fcb8bb25b82ad45b4e76396cdc5ce1c8e3c54dec06d", func := "tidings/tidingslaw12.PacketOnce", spec := "packetOnce", unfollowed := true, recurses := true, named := ["unicode/utf8.first", "unicode/utf8.acceptRanges", "bytes.ErrTooLarge"], apart := false, laid := [("unicode/utf8.acceptRanges", laid_unicode_utf8_acceptRanges), ("bytes.ErrTooLarge", laid_bytes_ErrTooLarge), ("unicode/utf8.first", laid_unicode_utf8_first)] }
def PacketOnceSaid : Prop := packetOnceRow.holds Tryd.pinned (OpenSpec.ofChange packetOnceSpec)

/-- ITS FALSE NEIGHBOUR: 'it returns false'. Refute it at one input. -/
def packetOnceWrong : ChangeSpec := { name := "packetOnce", fn := fun _ => fun
  | [d1, d2] => { results := [.lit (.bool false)], args := [d1, d2] }
  | _ => none }
def PacketOnceWrongFalsely : Prop := packetOnceRow.holds Tryd.pinned (OpenSpec.ofChange packetOnceWrong)

/-- 'tidingslaw12.PacketCodes': WHATEVER THE INPUT: true; the input reads as it did. -/
def packetCodesSpec : ChangeSpec := { name := "packetCodes", fn := fun _ => fun
  | [d1, d2, d3] => { results := [.lit (.bool true)], args := [d1, d2, d3] }
  | _ => none }
def packetCodesRow : OpenClaim := { program := "ytmlkhhidifjjfaadoor", sum := "98c4f8d59c32b824c3b37fcb8bb25b82ad45b4e76396cdc5ce1c8e3c54dec06d", func := "tidings/tidingslaw12.PacketCodes", spec := "packetCodes", unfollowed := true, recurses := true, named := ["unicode/utf8.first", "unicode/utf8.acceptRanges", "bytes.ErrTooLarge"], apart := false, laid := [("unicode/utf8.acceptRanges", laid_unicode_utf8_acceptRanges), ("bytes.ErrTooLarge", laid_bytes_ErrTooLarge), ("unicode/utf8.first", laid_unicode_utf8_first)] }
def PacketCodesSaid : Prop := packetCodesRow.holds Tryd.pinned (OpenSpec.ofChange packetCodesSpec)

/-- ITS FALSE NEIGHBOUR: 'it returns false'. Refute it at one input. -/
def packetCodesWrong : ChangeSpec := { name := "packetCodes", fn := fun _ => fun
  | [d1, d2, d3] => { results := [.lit (.bool false)], args := [d1, d2, d3] }
  | _ => none }
def PacketCodesWrongFalsely : Prop := packetCodesRow.holds Tryd.pinned (OpenSpec.ofChange packetCodesWrong)

/-- 'tidingslaw12.PacketProps': WHATEVER THE INPUT: true; the input reads as it did. -/
def packetPropsSpec : ChangeSpec := { name := "packetProps", fn := fun _ => fun
  | [d1, d2] => { results := [.lit (.bool true)], args := [d1, d2] }
  | _ => none }
def packetPropsRow : OpenClaim := { program := "ytmlkhhidifjjfaadoor", sum := "98c4f8d59c32b824c3b37fcb8bb25b82ad45b4e76396cdc5ce1c8e3c54dec06d", func := "tidings/tidingslaw12.PacketProps", spec := "packetProps", unfollowed := true, recurses := true, named := ["unicode/utf8.first", "unicode/utf8.acceptRanges", "bytes.ErrTooLarge"], apart := false, laid := [("unicode/utf8.acceptRanges", laid_unicode_utf8_acceptRanges), ("bytes.ErrTooLarge", laid_bytes_ErrTooLarge), ("unicode/utf8.first", laid_unicode_utf8_first)] }
def PacketPropsSaid : Prop := packetPropsRow.holds Tryd.pinned (OpenSpec.ofChange packetPropsSpec)

/-- ITS FALSE NEIGHBOUR: 'it returns false'. Refute it at one input. -/
def packetPropsWrong : ChangeSpec := { name := "packetProps", fn := fun _ => fun
  | [d1, d2] => { results := [.lit (.bool false)], args := [d1, d2] }
  | _ => none }
def PacketPropsWrongFalsely : Prop := packetPropsRow.holds Tryd.pinned (OpenSpec.ofChange packetPropsWrong)

/-- 'tidingslaw19.NoteLasts': WHATEVER THE INPUT: true; the input reads as it did. -/
def noteLastsSpec : ChangeSpec := { name := "noteLasts", fn := fun _ => fun
  | [d1, d2, d3] => { results := [.lit (.bool true)], args := [d1, d2, d3] }
  | _ => none }
def noteLastsRow : OpenClaim := { program := "ytmlkhhidifjjfaadoor", sum := "98c4f8d59c32b824c3b37fcb8bb25b82ad45b4e76396cdc5ce1c8e3c54dec06d", func := "tidings/tidingslaw19.NoteLasts", spec := "noteLasts", unfollowed := true, recurses := true, named := ["unicode/utf8.first", "unicode/utf8.acceptRanges", "bytes.ErrTooLarge"], apart := false, laid := [("unicode/utf8.acceptRanges", laid_unicode_utf8_acceptRanges), ("bytes.ErrTooLarge", laid_bytes_ErrTooLarge), ("unicode/utf8.first", laid_unicode_utf8_first)] }
def NoteLastsSaid : Prop := noteLastsRow.holds Tryd.pinned (OpenSpec.ofChange noteLastsSpec)

/-- ITS FALSE NEIGHBOUR: 'it returns false'. Refute it at one input. -/
def noteLastsWrong : ChangeSpec := { name := "noteLasts", fn := fun _ => fun
  | [d1, d2, d3] => { results := [.lit (.bool false)], args := [d1, d2, d3] }
  | _ => none }
def NoteLastsWrongFalsely : Prop := noteLastsRow.holds Tryd.pinned (OpenSpec.ofChange noteLastsWrong)

/- THE SECOND FORM. 'bulk': how many values and letters a reading holds, each counted each time it is reached (what is shared counts as often as it is met; a slice's spare places count too). A statement '..UptoSaid' is the law's where the arguments, and the package variables that the reading takes, are together of bulk at most 1048576: NARROWER than '..Said'. Prove '..Said' where nothing that the law and all that it calls make is longer than what came in: it says more and counts as full. Else prove '..UptoSaid'. A law counts once. -/
mutual
def uptoBulk {H : Type} : DataW H → Nat
  | .lit (.string bytes) => bytes.length + 1
  | .lit _ => 1
  | .nil => 1
  | .ptr d => uptoBulk d + 1
  | .slice elems spare => uptoBulkAll elems + uptoBulkAll spare + 1
  | .agg parts => uptoBulkAll parts + 1
  | .iface _ d => uptoBulk d + 1
  | .map entries => uptoBulkEntries entries + 1
  | .held _ => 1
def uptoBulkAll {H : Type} : List (DataW H) → Nat
  | [] => 0
  | d :: r => uptoBulk d + uptoBulkAll r
def uptoBulkEntries {H : Type} : List (Lit × DataW H) → Nat
  | [] => 0
  | x :: r => uptoBulkEntry x + uptoBulkEntries r
def uptoBulkEntry {H : Type} : Lit × DataW H → Nat
  | (.string bytes, d) => bytes.length + uptoBulk d + 1
  | (_, d) => uptoBulk d + 1
 end
def uptoSmall : (H : Type) → List (DataW H) → Bool := fun _ ds => decide (uptoBulkAll ds ≤ 1048576)
def OpenSpec.upto (s : _root_.Go.ChangeSpec) : _root_.Go.OpenSpec := { _root_.Go.OpenSpec.ofChange s with cond := some uptoSmall }

/-- 'tidingslaw19.NoteBytes', WHERE WHAT IT READS IS OF BULK AT MOST 1048576: true; the input reads as it did. -/
def noteBytesUptoRow : OpenClaim := { program := "ytmlkhhidifjjfaadoor", sum := "98c4f8d59c32b824c3b37fcb8bb25b82ad45b4e76396cdc5ce1c8e3c54dec06d", func := "tidings/tidingslaw19.NoteBytes", spec := "noteBytes", unfollowed := true, recurses := true, named := ["unicode/utf8.first", "unicode/utf8.acceptRanges"], apart := false, laid := [("unicode/utf8.acceptRanges", laid_unicode_utf8_acceptRanges), ("unicode/utf8.first", laid_unicode_utf8_first)], narrowed := true }
def NoteBytesUptoSaid : Prop := noteBytesUptoRow.holds Tryd.pinned (OpenSpec.upto noteBytesSpec)

/-- 'tidingslaw19.NoteBack', WHERE WHAT IT READS IS OF BULK AT MOST 1048576: true; the input reads as it did. -/
def noteBackUptoRow : OpenClaim := { program := "ytmlkhhidifjjfaadoor", sum := "98c4f8d59c32b824c3b37fcb8bb25b82ad45b4e76396cdc5ce1c8e3c54dec06d", func := "tidings/tidingslaw19.NoteBack", spec := "noteBack", unfollowed := true, recurses := true, named := ["unicode/utf8.first", "unicode/utf8.acceptRanges"], apart := false, laid := [("unicode/utf8.acceptRanges", laid_unicode_utf8_acceptRanges), ("unicode/utf8.first", laid_unicode_utf8_first)], narrowed := true }
def NoteBackUptoSaid : Prop := noteBackUptoRow.holds Tryd.pinned (OpenSpec.upto noteBackSpec)

/-- 'tidingslaw12.PacketBack', WHERE WHAT IT READS IS OF BULK AT MOST 1048576: true; the input reads as it did. -/
def packetBackUptoRow : OpenClaim := { program := "ytmlkhhidifjjfaadoor", sum := "98c4f8d59c32b824c3b37fcb8bb25b82ad45b4e76396cdc5ce1c8e3c54dec06d", func := "tidings/tidingslaw12.PacketBack", spec := "packetBack", unfollowed := true, recurses := true, named := ["unicode/utf8.first", "unicode/utf8.acceptRanges", "bytes.ErrTooLarge"], apart := false, laid := [("unicode/utf8.acceptRanges", laid_unicode_utf8_acceptRanges), ("bytes.ErrTooLarge", laid_bytes_ErrTooLarge), ("unicode/utf8.first", laid_unicode_utf8_first)], narrowed := true }
def PacketBackUptoSaid : Prop := packetBackUptoRow.holds Tryd.pinned (OpenSpec.upto packetBackSpec)

/-- 'tidingslaw12.PacketShort', WHERE WHAT IT READS IS OF BULK AT MOST 1048576: true; the input reads as it did. -/
def packetShortUptoRow : OpenClaim := { program := "ytmlkhhidifjjfaadoor", sum := "98c4f8d59c32b824c3b37fcb8bb25b82ad45b4e76396cdc5ce1c8e3c54dec06d", func := "tidings/tidingslaw12.PacketShort", spec := "packetShort", unfollowed := true, recurses := true, named := ["unicode/utf8.first", "unicode/utf8.acceptRanges", "bytes.ErrTooLarge"], apart := false, laid := [("unicode/utf8.acceptRanges", laid_unicode_utf8_acceptRanges), ("bytes.ErrTooLarge", laid_bytes_ErrTooLarge), ("unicode/utf8.first", laid_unicode_utf8_first)], narrowed := true }
def PacketShortUptoSaid : Prop := packetShortUptoRow.holds Tryd.pinned (OpenSpec.upto packetShortSpec)

/-- 'tidingslaw12.PacketMore', WHERE WHAT IT READS IS OF BULK AT MOST 1048576: true; the input reads as it did. -/
def packetMoreUptoRow : OpenClaim := { program := "ytmlkhhidifjjfaadoor", sum := "98c4f8d59c32b824c3b37fcb8bb25b82ad45b4e76396cdc5ce1c8e3c54dec06d", func := "tidings/tidingslaw12.PacketMore", spec := "packetMore", unfollowed := true, recurses := true, named := ["unicode/utf8.first", "unicode/utf8.acceptRanges", "bytes.ErrTooLarge"], apart := false, laid := [("unicode/utf8.acceptRanges", laid_unicode_utf8_acceptRanges), ("bytes.ErrTooLarge", laid_bytes_ErrTooLarge), ("unicode/utf8.first", laid_unicode_utf8_first)], narrowed := true }
def PacketMoreUptoSaid : Prop := packetMoreUptoRow.holds Tryd.pinned (OpenSpec.upto packetMoreSpec)

/-- 'tidingslaw12.PacketOnce', WHERE WHAT IT READS IS OF BULK AT MOST 1048576: true; the input reads as it did. -/
def packetOnceUptoRow : OpenClaim := { program := "ytmlkhhidifjjfaadoor", sum := "98c4f8d59c32b824c3b37fcb8bb25b82ad45b4e76396cdc5ce1c8e3c54dec06d", func := "tidings/tidingslaw12.PacketOnce", spec := "packetOnce", unfollowed := true, recurses := true, named := ["unicode/utf8.first", "unicode/utf8.acceptRanges", "bytes.ErrTooLarge"], apart := false, laid := [("unicode/utf8.acceptRanges", laid_unicode_utf8_acceptRanges), ("bytes.ErrTooLarge", laid_bytes_ErrTooLarge), ("unicode/utf8.first", laid_unicode_utf8_first)], narrowed := true }
def PacketOnceUptoSaid : Prop := packetOnceUptoRow.holds Tryd.pinned (OpenSpec.upto packetOnceSpec)

/-- 'tidingslaw12.PacketCodes', WHERE WHAT IT READS IS OF BULK AT MOST 1048576: true; the input reads as it did. -/
def packetCodesUptoRow : OpenClaim := { program := "ytmlkhhidifjjfaadoor", sum := "98c4f8d59c32b824c3b37fcb8bb25b82ad45b4e76396cdc5ce1c8e3c54dec06d", func := "tidings/tidingslaw12.PacketCodes", spec := "packetCodes", unfollowed := true, recurses := true, named := ["unicode/utf8.first", "unicode/utf8.acceptRanges", "bytes.ErrTooLarge"], apart := false, laid := [("unicode/utf8.acceptRanges", laid_unicode_utf8_acceptRanges), ("bytes.ErrTooLarge", laid_bytes_ErrTooLarge), ("unicode/utf8.first", laid_unicode_utf8_first)], narrowed := true }
def PacketCodesUptoSaid : Prop := packetCodesUptoRow.holds Tryd.pinned (OpenSpec.upto packetCodesSpec)

/-- 'tidingslaw12.PacketProps', WHERE WHAT IT READS IS OF BULK AT MOST 1048576: true; the input reads as it did. -/
def packetPropsUptoRow : OpenClaim := { program := "ytmlkhhidifjjfaadoor", sum := "98c4f8d59c32b824c3b37fcb8bb25b82ad45b4e76396cdc5ce1c8e3c54dec06d", func := "tidings/tidingslaw12.PacketProps", spec := "packetProps", unfollowed := true, recurses := true, named := ["unicode/utf8.first", "unicode/utf8.acceptRanges", "bytes.ErrTooLarge"], apart := false, laid := [("unicode/utf8.acceptRanges", laid_unicode_utf8_acceptRanges), ("bytes.ErrTooLarge", laid_bytes_ErrTooLarge), ("unicode/utf8.first", laid_unicode_utf8_first)], narrowed := true }
def PacketPropsUptoSaid : Prop := packetPropsUptoRow.holds Tryd.pinned (OpenSpec.upto packetPropsSpec)

/-- 'tidingslaw19.NoteLasts', WHERE WHAT IT READS IS OF BULK AT MOST 1048576: true; the input reads as it did. -/
def noteLastsUptoRow : OpenClaim := { program := "ytmlkhhidifjjfaadoor", sum := "98c4f8d59c32b824c3b37fcb8bb25b82ad45b4e76396cdc5ce1c8e3c54dec06d", func := "tidings/tidingslaw19.NoteLasts", spec := "noteLasts", unfollowed := true, recurses := true, named := ["unicode/utf8.first", "unicode/utf8.acceptRanges", "bytes.ErrTooLarge"], apart := false, laid := [("unicode/utf8.acceptRanges", laid_unicode_utf8_acceptRanges), ("bytes.ErrTooLarge", laid_bytes_ErrTooLarge), ("unicode/utf8.first", laid_unicode_utf8_first)], narrowed := true }
def NoteLastsUptoSaid : Prop := noteLastsUptoRow.holds Tryd.pinned (OpenSpec.upto noteLastsSpec)

end Rows
end Go.Proofs.YtmlkhhidifjjfaaDoor
