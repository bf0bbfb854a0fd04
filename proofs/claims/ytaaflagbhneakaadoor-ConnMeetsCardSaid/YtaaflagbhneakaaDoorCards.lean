/-
  DERIVED. GIVEN WITH THE SEED: THE CARDS: each row of YtaaflagbhneakaaDoorRows.lean that lists a variable, with what it lists TIED to the program's text (the seventh form; the later family's looks); each row that meets fmt, with fmt's text TOLD by the authors' own Lean function (tested against real Go, not proved from fmt's source: count such statements apart). THE CARD IS WHAT COUNTS. Prove the row's statement (the work); the ties are given (YtaaflagbhneakaaDoorTie.lean); close each card by the builder's one call (the guide's Derived/Test/ToyasCard.lean, 'card_holds'). Laid BY PROGRAM, IN A SANDBOX (cutbox-door.mjs). By AI agents, Wed Nov 11 2026. No macro, syntax, notation, axiom, sorry.
-/
import Derived.Test.YtaaflagbhneakaaDoorRows
import GoSem.ClaimSeven
namespace Go.Proofs.YtaaflagbhneakaaDoor
namespace Rows

/-- THE TIED CARD OF 'tidingslaw23.ConnMeets'. -/
def connMeetsCard : Claim7 := { stood := { row := connMeetsRow, standIns := [], harness := (true, "76951d42de5acfae939531b746dfa44bdb1f64af8bb7b94af8203ce7c75573d5"), looks := false }, kinds := [], alts := [], laidByText := true, laidKinds := [.data, .pinned], laidTests := true, laidLooks := .later }
def ConnMeetsCardSaid : Prop := Claim7.holds Tryd.pinned (.plain (OpenSpec.ofChange connMeetsSpec)) connMeetsCard

/-- THE TIED CARD OF 'tidingslaw23.ConnNames'. -/
def connNamesCard : Claim7 := { stood := { row := connNamesRow, standIns := [], harness := (true, "76951d42de5acfae939531b746dfa44bdb1f64af8bb7b94af8203ce7c75573d5"), looks := false }, kinds := [], alts := [], laidByText := true, laidKinds := [.data, .pinned], laidTests := true, laidLooks := .later }
def ConnNamesCardSaid : Prop := Claim7.holds Tryd.pinned (.plain (OpenSpec.ofChange connNamesSpec)) connNamesCard

/-- THE SECOND FORM's CARD OF 'tidingslaw23.ConnMeets'. -/
def connMeetsUptoCard : Claim7 := { stood := { row := connMeetsUptoRow, standIns := [], harness := (true, "76951d42de5acfae939531b746dfa44bdb1f64af8bb7b94af8203ce7c75573d5"), looks := false }, kinds := [], alts := [], laidByText := true, laidKinds := [.data, .pinned], laidTests := true, laidLooks := .later }
def ConnMeetsUptoCardSaid : Prop := Claim7.holds Tryd.pinned (.plain (OpenSpec.upto connMeetsSpec)) connMeetsUptoCard

/-- THE SECOND FORM's CARD OF 'tidingslaw23.ConnNames'. -/
def connNamesUptoCard : Claim7 := { stood := { row := connNamesUptoRow, standIns := [], harness := (true, "76951d42de5acfae939531b746dfa44bdb1f64af8bb7b94af8203ce7c75573d5"), looks := false }, kinds := [], alts := [], laidByText := true, laidKinds := [.data, .pinned], laidTests := true, laidLooks := .later }
def ConnNamesUptoCardSaid : Prop := Claim7.holds Tryd.pinned (.plain (OpenSpec.upto connNamesSpec)) connNamesUptoCard
end Rows
end Go.Proofs.YtaaflagbhneakaaDoor
