/-
  No cell of these rows narrows 'for every input' (looked for: loops, veiled, ifaces, maps, wideKeys, modest, calm, conditions, laid).
  DERIVED. THE GIVEN ROWS OF THIS SEAT. 3 by the template 'for every input the law returns true; each argument reads behind the call as it read before'; 0 by the template 'total and deterministic' (their statements: YtcgndmenpdhjcaaTotals.lean).
  GIVEN WITH THE SEED: the statements are not yours to turn. If you find one false, say at which input.
  Laid BY PROGRAM, IN A SANDBOX (cutbox-rows.mjs): the forced cells as the released guide's own fill.sh prints them over the translation a51fc32ea000d551… (all of the seat's roots in one cut). By AI agents, Wed Nov 11 2026. No macro, syntax, notation, axiom, sorry.
-/
import Derived.Test.YtcgndmenpdhjcaaChecked
import GoSem.Claim
import GoSem.ClaimJoined
import GoSem.ClaimMapViews
import Derived.JoinedTies
import Derived.KernelRfl
namespace Go.Proofs.Ytcgndmenpdhjcaa
/- THE CELL 'sum', in the pinned program and in every row, IS THE sha256 OF THE DUMP (.gsa) THAT YtcgndmenpdhjcaaProg.lean LOADS. Nothing in Lean hashes anything: it is a label: what it is worth is what the hold of that sum in a sandbox is worth. -/
noncomputable def Try.pinned : Pinned := { name := "ytcgndmenpdhjcaa", sum := "a51fc32ea000d5511388568197bf6b8d945e51daa439794b79dd9240238fbec6", checked := Try.checked }
namespace Rows
def none {H : Type} : Left H := { results := [], args := [] }

/-- 'tidingslaw18.IdentPlays': WHATEVER THE INPUT: true; the input reads as it did. -/
def identPlaysSpec : ChangeSpec := { name := "identPlays", fn := fun _ => fun
  | [d1, d2] => { results := [.lit (.bool true)], args := [d1, d2] }
  | _ => none }
def identPlaysRow : OpenClaim := { program := "ytcgndmenpdhjcaa", sum := "a51fc32ea000d5511388568197bf6b8d945e51daa439794b79dd9240238fbec6", func := "tidings/tidingslaw18.IdentPlays", spec := "identPlays", recurses := true, apart := false }
def IdentPlaysSaid : Prop := identPlaysRow.holds Try.pinned (OpenSpec.ofChange identPlaysSpec)

/-- ITS FALSE NEIGHBOUR: 'it returns false'. Refute it at one input. -/
def identPlaysWrong : ChangeSpec := { name := "identPlays", fn := fun _ => fun
  | [d1, d2] => { results := [.lit (.bool false)], args := [d1, d2] }
  | _ => none }
def IdentPlaysWrongFalsely : Prop := identPlaysRow.holds Try.pinned (OpenSpec.ofChange identPlaysWrong)

/-- 'tidingslaw18.IdentLeast': WHATEVER THE INPUT: true; the input reads as it did. -/
def identLeastSpec : ChangeSpec := { name := "identLeast", fn := fun _ => fun
  | [d1, d2] => { results := [.lit (.bool true)], args := [d1, d2] }
  | _ => none }
def identLeastRow : OpenClaim := { program := "ytcgndmenpdhjcaa", sum := "a51fc32ea000d5511388568197bf6b8d945e51daa439794b79dd9240238fbec6", func := "tidings/tidingslaw18.IdentLeast", spec := "identLeast", recurses := true, apart := false }
def IdentLeastSaid : Prop := identLeastRow.holds Try.pinned (OpenSpec.ofChange identLeastSpec)

/-- ITS FALSE NEIGHBOUR: 'it returns false'. Refute it at one input. -/
def identLeastWrong : ChangeSpec := { name := "identLeast", fn := fun _ => fun
  | [d1, d2] => { results := [.lit (.bool false)], args := [d1, d2] }
  | _ => none }
def IdentLeastWrongFalsely : Prop := identLeastRow.holds Try.pinned (OpenSpec.ofChange identLeastWrong)

/-- 'tidingslaw18.IdentAll': WHATEVER THE INPUT: true; the input reads as it did. -/
def identAllSpec : ChangeSpec := { name := "identAll", fn := fun _ => fun
  | [] => { results := [.lit (.bool true)], args := [] }
  | _ => none }
def identAllRow : OpenClaim := { program := "ytcgndmenpdhjcaa", sum := "a51fc32ea000d5511388568197bf6b8d945e51daa439794b79dd9240238fbec6", func := "tidings/tidingslaw18.IdentAll", spec := "identAll", recurses := true, apart := false }
def IdentAllSaid : Prop := identAllRow.holds Try.pinned (OpenSpec.ofChange identAllSpec)

/-- ITS FALSE NEIGHBOUR: 'it returns false'. Refute it at one input. -/
def identAllWrong : ChangeSpec := { name := "identAll", fn := fun _ => fun
  | [] => { results := [.lit (.bool false)], args := [] }
  | _ => none }
def IdentAllWrongFalsely : Prop := identAllRow.holds Try.pinned (OpenSpec.ofChange identAllWrong)

/- THE SECOND FORM. 'bulk': how many values and letters a reading holds, each counted each time it is reached (what is shared counts as often as it is met; a slice's spare places count too). A statement '..UptoSaid' is the law's where the arguments, and the package variables that the reading takes, are together of bulk at most 1048576: NARROWER than '..Said'. Prove '..Said' where nothing that the law and all that it calls make is longer than what came in: it says more and counts as full. Else prove '..UptoSaid'. A law counts once. -/
mutual
def uptoBulk {H : Type} : DataW H → Nat
  | .lit (.string bytes) => bytes.length + 1
  | .lit _ => 1
  | .nil => 1
  | .ptr d => uptoBulk d + 1
  | .slice elems spare => uptoBulkAll elems + uptoBulkAll spare + 1
  | .agg parts => uptoBulkAll parts + 1
  | .iface _ d => uptoBulk d + 1
  | .map entries => uptoBulkEntries entries + 1
  | .held _ => 1
def uptoBulkAll {H : Type} : List (DataW H) → Nat
  | [] => 0
  | d :: r => uptoBulk d + uptoBulkAll r
def uptoBulkEntries {H : Type} : List (Lit × DataW H) → Nat
  | [] => 0
  | x :: r => uptoBulkEntry x + uptoBulkEntries r
def uptoBulkEntry {H : Type} : Lit × DataW H → Nat
  | (.string bytes, d) => bytes.length + uptoBulk d + 1
  | (_, d) => uptoBulk d + 1
 end
def uptoSmall : (H : Type) → List (DataW H) → Bool := fun _ ds => decide (uptoBulkAll ds ≤ 1048576)
def OpenSpec.upto (s : _root_.Go.ChangeSpec) : _root_.Go.OpenSpec := { _root_.Go.OpenSpec.ofChange s with cond := some uptoSmall }

/-- 'tidingslaw18.IdentPlays', WHERE WHAT IT READS IS OF BULK AT MOST 1048576: true; the input reads as it did. -/
def identPlaysUptoRow : OpenClaim := { program := "ytcgndmenpdhjcaa", sum := "a51fc32ea000d5511388568197bf6b8d945e51daa439794b79dd9240238fbec6", func := "tidings/tidingslaw18.IdentPlays", spec := "identPlays", recurses := true, apart := false, narrowed := true }
def IdentPlaysUptoSaid : Prop := identPlaysUptoRow.holds Try.pinned (OpenSpec.upto identPlaysSpec)

/-- 'tidingslaw18.IdentLeast', WHERE WHAT IT READS IS OF BULK AT MOST 1048576: true; the input reads as it did. -/
def identLeastUptoRow : OpenClaim := { program := "ytcgndmenpdhjcaa", sum := "a51fc32ea000d5511388568197bf6b8d945e51daa439794b79dd9240238fbec6", func := "tidings/tidingslaw18.IdentLeast", spec := "identLeast", recurses := true, apart := false, narrowed := true }
def IdentLeastUptoSaid : Prop := identLeastUptoRow.holds Try.pinned (OpenSpec.upto identLeastSpec)

/-- 'tidingslaw18.IdentAll', WHERE WHAT IT READS IS OF BULK AT MOST 1048576: true; the input reads as it did. -/
def identAllUptoRow : OpenClaim := { program := "ytcgndmenpdhjcaa", sum := "a51fc32ea000d5511388568197bf6b8d945e51daa439794b79dd9240238fbec6", func := "tidings/tidingslaw18.IdentAll", spec := "identAll", recurses := true, apart := false, narrowed := true }
def IdentAllUptoSaid : Prop := identAllUptoRow.holds Try.pinned (OpenSpec.upto identAllSpec)

end Rows
end Go.Proofs.Ytcgndmenpdhjcaa
