/-
  No cell of these rows narrows 'for every input' (looked for: loops, veiled, ifaces, maps, wideKeys, modest, calm, conditions, laid).
  DERIVED. THE GIVEN ROWS OF THIS SEAT. 3 by the template 'for every input the law returns true; each argument reads behind the call as it read before'; 0 by the template 'total and deterministic' (their statements: YtaimaokfbgmoiaaTotals.lean).
  GIVEN WITH THE SEED: the statements are not yours to turn. If you find one false, say at which input.
  Laid BY PROGRAM, IN A SANDBOX (cutbox-rows.mjs): the forced cells as the released guide's own fill.sh prints them over the translation ded193b4ddca80a0… (all of the seat's roots in one cut). By AI agents, Wed Nov 11 2026. No macro, syntax, notation, axiom, sorry.
-/
import Derived.Test.YtaimaokfbgmoiaaChecked
import GoSem.Claim
import GoSem.ClaimJoined
import GoSem.ClaimMapViews
import Derived.JoinedTies
import Derived.KernelRfl
namespace Go.Proofs.Ytaimaokfbgmoiaa
/- THE CELL 'sum', in the pinned program and in every row, IS THE sha256 OF THE DUMP (.gsa) THAT YtaimaokfbgmoiaaProg.lean LOADS. Nothing in Lean hashes anything: it is a label: what it is worth is what the hold of that sum in a sandbox is worth. -/
noncomputable def Try.pinned : Pinned := { name := "ytaimaokfbgmoiaa", sum := "ded193b4ddca80a021d8d203c216c6e40dcf27bc8a840439348852078c1eae5b", checked := Try.checked }
namespace Rows
def none {H : Type} : Left H := { results := [], args := [] }

/-- 'tidingslaw21.RouteOnce': WHATEVER THE INPUT: true; the input reads as it did. -/
def routeOnceSpec : ChangeSpec := { name := "routeOnce", fn := fun _ => fun
  | [d1, d2] => { results := [.lit (.bool true)], args := [d1, d2] }
  | _ => none }
def routeOnceRow : OpenClaim := { program := "ytaimaokfbgmoiaa", sum := "ded193b4ddca80a021d8d203c216c6e40dcf27bc8a840439348852078c1eae5b", func := "tidings/tidingslaw21.RouteOnce", spec := "routeOnce", inPlace := ["internal/bytealg.abigen_runtime_cmpstring"], unfollowed := true, recurses := true, apart := false }
def RouteOnceSaid : Prop := routeOnceRow.holds Try.pinned (OpenSpec.ofChange routeOnceSpec)

/-- ITS FALSE NEIGHBOUR: 'it returns false'. Refute it at one input. -/
def routeOnceWrong : ChangeSpec := { name := "routeOnce", fn := fun _ => fun
  | [d1, d2] => { results := [.lit (.bool false)], args := [d1, d2] }
  | _ => none }
def RouteOnceWrongFalsely : Prop := routeOnceRow.holds Try.pinned (OpenSpec.ofChange routeOnceWrong)

/-- 'tidingslaw21.RouteOrder': WHATEVER THE INPUT: true; the input reads as it did. -/
def routeOrderSpec : ChangeSpec := { name := "routeOrder", fn := fun _ => fun
  | [d1, d2] => { results := [.lit (.bool true)], args := [d1, d2] }
  | _ => none }
def routeOrderRow : OpenClaim := { program := "ytaimaokfbgmoiaa", sum := "ded193b4ddca80a021d8d203c216c6e40dcf27bc8a840439348852078c1eae5b", func := "tidings/tidingslaw21.RouteOrder", spec := "routeOrder", inPlace := ["internal/bytealg.abigen_runtime_cmpstring"], unfollowed := true, recurses := true, apart := false }
def RouteOrderSaid : Prop := routeOrderRow.holds Try.pinned (OpenSpec.ofChange routeOrderSpec)

/-- ITS FALSE NEIGHBOUR: 'it returns false'. Refute it at one input. -/
def routeOrderWrong : ChangeSpec := { name := "routeOrder", fn := fun _ => fun
  | [d1, d2] => { results := [.lit (.bool false)], args := [d1, d2] }
  | _ => none }
def RouteOrderWrongFalsely : Prop := routeOrderRow.holds Try.pinned (OpenSpec.ofChange routeOrderWrong)

/-- 'tidingslaw21.RoutePlans': WHATEVER THE INPUT: true; the input reads as it did. -/
def routePlansSpec : ChangeSpec := { name := "routePlans", fn := fun _ => fun
  | [d1, d2, d3] => { results := [.lit (.bool true)], args := [d1, d2, d3] }
  | _ => none }
def routePlansRow : OpenClaim := { program := "ytaimaokfbgmoiaa", sum := "ded193b4ddca80a021d8d203c216c6e40dcf27bc8a840439348852078c1eae5b", func := "tidings/tidingslaw21.RoutePlans", spec := "routePlans", inPlace := ["internal/bytealg.abigen_runtime_cmpstring"], unfollowed := true, recurses := true, apart := false }
def RoutePlansSaid : Prop := routePlansRow.holds Try.pinned (OpenSpec.ofChange routePlansSpec)

/-- ITS FALSE NEIGHBOUR: 'it returns false'. Refute it at one input. -/
def routePlansWrong : ChangeSpec := { name := "routePlans", fn := fun _ => fun
  | [d1, d2, d3] => { results := [.lit (.bool false)], args := [d1, d2, d3] }
  | _ => none }
def RoutePlansWrongFalsely : Prop := routePlansRow.holds Try.pinned (OpenSpec.ofChange routePlansWrong)

/- THE SECOND FORM. 'bulk': how many values and letters a reading holds, each counted each time it is reached (what is shared counts as often as it is met; a slice's spare places count too). A statement '..UptoSaid' is the law's where the arguments, and the package variables that the reading takes, are together of bulk at most 1048576: NARROWER than '..Said'. Prove '..Said' where nothing that the law and all that it calls make is longer than what came in: it says more and counts as full. Else prove '..UptoSaid'. A law counts once. -/
mutual
def uptoBulk {H : Type} : DataW H → Nat
  | .lit (.string bytes) => bytes.length + 1
  | .lit _ => 1
  | .nil => 1
  | .ptr d => uptoBulk d + 1
  | .slice elems spare => uptoBulkAll elems + uptoBulkAll spare + 1
  | .agg parts => uptoBulkAll parts + 1
  | .iface _ d => uptoBulk d + 1
  | .map entries => uptoBulkEntries entries + 1
  | .held _ => 1
def uptoBulkAll {H : Type} : List (DataW H) → Nat
  | [] => 0
  | d :: r => uptoBulk d + uptoBulkAll r
def uptoBulkEntries {H : Type} : List (Lit × DataW H) → Nat
  | [] => 0
  | x :: r => uptoBulkEntry x + uptoBulkEntries r
def uptoBulkEntry {H : Type} : Lit × DataW H → Nat
  | (.string bytes, d) => bytes.length + uptoBulk d + 1
  | (_, d) => uptoBulk d + 1
 end
def uptoSmall : (H : Type) → List (DataW H) → Bool := fun _ ds => decide (uptoBulkAll ds ≤ 1048576)
def OpenSpec.upto (s : _root_.Go.ChangeSpec) : _root_.Go.OpenSpec := { _root_.Go.OpenSpec.ofChange s with cond := some uptoSmall }

/-- 'tidingslaw21.RouteOnce', WHERE WHAT IT READS IS OF BULK AT MOST 1048576: true; the input reads as it did. -/
def routeOnceUptoRow : OpenClaim := { program := "ytaimaokfbgmoiaa", sum := "ded193b4ddca80a021d8d203c216c6e40dcf27bc8a840439348852078c1eae5b", func := "tidings/tidingslaw21.RouteOnce", spec := "routeOnce", inPlace := ["internal/bytealg.abigen_runtime_cmpstring"], unfollowed := true, recurses := true, apart := false, narrowed := true }
def RouteOnceUptoSaid : Prop := routeOnceUptoRow.holds Try.pinned (OpenSpec.upto routeOnceSpec)

/-- 'tidingslaw21.RouteOrder', WHERE WHAT IT READS IS OF BULK AT MOST 1048576: true; the input reads as it did. -/
def routeOrderUptoRow : OpenClaim := { program := "ytaimaokfbgmoiaa", sum := "ded193b4ddca80a021d8d203c216c6e40dcf27bc8a840439348852078c1eae5b", func := "tidings/tidingslaw21.RouteOrder", spec := "routeOrder", inPlace := ["internal/bytealg.abigen_runtime_cmpstring"], unfollowed := true, recurses := true, apart := false, narrowed := true }
def RouteOrderUptoSaid : Prop := routeOrderUptoRow.holds Try.pinned (OpenSpec.upto routeOrderSpec)

/-- 'tidingslaw21.RoutePlans', WHERE WHAT IT READS IS OF BULK AT MOST 1048576: true; the input reads as it did. -/
def routePlansUptoRow : OpenClaim := { program := "ytaimaokfbgmoiaa", sum := "ded193b4ddca80a021d8d203c216c6e40dcf27bc8a840439348852078c1eae5b", func := "tidings/tidingslaw21.RoutePlans", spec := "routePlans", inPlace := ["internal/bytealg.abigen_runtime_cmpstring"], unfollowed := true, recurses := true, apart := false, narrowed := true }
def RoutePlansUptoSaid : Prop := routePlansUptoRow.holds Try.pinned (OpenSpec.upto routePlansSpec)

end Rows
end Go.Proofs.Ytaimaokfbgmoiaa
