/-
  DERIVED. GIVEN WITH THE SEED: THE CARDS: each row of YtochhdiilicpgaaDoorRows.lean that lists a variable, with what it lists TIED to the program's text (the seventh form; the later family's looks); each row that meets fmt, with fmt's text TOLD by the authors' own Lean function (tested against real Go, not proved from fmt's source: count such statements apart). THE CARD IS WHAT COUNTS. Prove the row's statement (the work); the ties are given (YtochhdiilicpgaaDoorTie.lean); close each card by the builder's one call (the guide's Derived/Test/ToyasCard.lean, 'card_holds'). Laid BY PROGRAM, IN A SANDBOX (cutbox-door.mjs). By AI agents, Wed Nov 11 2026. No macro, syntax, notation, axiom, sorry.
-/
import Derived.Test.YtochhdiilicpgaaDoorRows
import GoSem.ClaimSeven
namespace Go.Proofs.YtochhdiilicpgaaDoor
namespace Rows

/-- THE TIED CARD OF 'tidingslaw14.TopicMatches'. -/
def topicMatchesCard : Claim7 := { stood := { row := topicMatchesRow, standIns := [], harness := (true, "a685bf962e438b6de7750ba51f2e0e086188114e847046601b29234309542457"), looks := false }, kinds := [], alts := [], laidByText := true, laidKinds := [.data, .pinned], laidTests := true, laidLooks := .later }
def TopicMatchesCardSaid : Prop := Claim7.holds Tryd.pinned (.plain (OpenSpec.ofChange topicMatchesSpec)) topicMatchesCard

/-- THE TIED CARD OF 'tidingslaw14.TopicWild'. -/
def topicWildCard : Claim7 := { stood := { row := topicWildRow, standIns := [], harness := (true, "a685bf962e438b6de7750ba51f2e0e086188114e847046601b29234309542457"), looks := false }, kinds := [], alts := [], laidByText := true, laidKinds := [.data, .pinned], laidTests := true, laidLooks := .later }
def TopicWildCardSaid : Prop := Claim7.holds Tryd.pinned (.plain (OpenSpec.ofChange topicWildSpec)) topicWildCard

/-- THE TIED CARD OF 'tidingslaw14.TopicNarrow'. -/
def topicNarrowCard : Claim7 := { stood := { row := topicNarrowRow, standIns := [], harness := (true, "a685bf962e438b6de7750ba51f2e0e086188114e847046601b29234309542457"), looks := false }, kinds := [], alts := [], laidByText := true, laidKinds := [.data, .pinned], laidTests := true, laidLooks := .later }
def TopicNarrowCardSaid : Prop := Claim7.holds Tryd.pinned (.plain (OpenSpec.ofChange topicNarrowSpec)) topicNarrowCard

/-- THE TIED CARD OF 'tidingslaw14.TopicLevels'. -/
def topicLevelsCard : Claim7 := { stood := { row := topicLevelsRow, standIns := [], harness := (true, "a685bf962e438b6de7750ba51f2e0e086188114e847046601b29234309542457"), looks := false }, kinds := [], alts := [], laidByText := true, laidKinds := [.data, .pinned], laidTests := true, laidLooks := .later }
def TopicLevelsCardSaid : Prop := Claim7.holds Tryd.pinned (.plain (OpenSpec.ofChange topicLevelsSpec)) topicLevelsCard

/-- THE TIED CARD OF 'tidingslaw14.TopicForms'. -/
def topicFormsCard : Claim7 := { stood := { row := topicFormsRow, standIns := [], harness := (true, "a685bf962e438b6de7750ba51f2e0e086188114e847046601b29234309542457"), looks := false }, kinds := [], alts := [], laidByText := true, laidKinds := [.data, .pinned], laidTests := true, laidLooks := .later }
def TopicFormsCardSaid : Prop := Claim7.holds Tryd.pinned (.plain (OpenSpec.ofChange topicFormsSpec)) topicFormsCard

/-- THE TIED CARD OF 'tidingslaw14.TopicEnds'. -/
def topicEndsCard : Claim7 := { stood := { row := topicEndsRow, standIns := [], harness := (true, "a685bf962e438b6de7750ba51f2e0e086188114e847046601b29234309542457"), looks := false }, kinds := [], alts := [], laidByText := true, laidKinds := [.data, .pinned], laidTests := true, laidLooks := .later }
def TopicEndsCardSaid : Prop := Claim7.holds Tryd.pinned (.plain (OpenSpec.ofChange topicEndsSpec)) topicEndsCard

/-- THE SECOND FORM's CARD OF 'tidingslaw14.TopicMatches'. -/
def topicMatchesUptoCard : Claim7 := { stood := { row := topicMatchesUptoRow, standIns := [], harness := (true, "a685bf962e438b6de7750ba51f2e0e086188114e847046601b29234309542457"), looks := false }, kinds := [], alts := [], laidByText := true, laidKinds := [.data, .pinned], laidTests := true, laidLooks := .later }
def TopicMatchesUptoCardSaid : Prop := Claim7.holds Tryd.pinned (.plain (OpenSpec.upto topicMatchesSpec)) topicMatchesUptoCard

/-- THE SECOND FORM's CARD OF 'tidingslaw14.TopicWild'. -/
def topicWildUptoCard : Claim7 := { stood := { row := topicWildUptoRow, standIns := [], harness := (true, "a685bf962e438b6de7750ba51f2e0e086188114e847046601b29234309542457"), looks := false }, kinds := [], alts := [], laidByText := true, laidKinds := [.data, .pinned], laidTests := true, laidLooks := .later }
def TopicWildUptoCardSaid : Prop := Claim7.holds Tryd.pinned (.plain (OpenSpec.upto topicWildSpec)) topicWildUptoCard

/-- THE SECOND FORM's CARD OF 'tidingslaw14.TopicNarrow'. -/
def topicNarrowUptoCard : Claim7 := { stood := { row := topicNarrowUptoRow, standIns := [], harness := (true, "a685bf962e438b6de7750ba51f2e0e086188114e847046601b29234309542457"), looks := false }, kinds := [], alts := [], laidByText := true, laidKinds := [.data, .pinned], laidTests := true, laidLooks := .later }
def TopicNarrowUptoCardSaid : Prop := Claim7.holds Tryd.pinned (.plain (OpenSpec.upto topicNarrowSpec)) topicNarrowUptoCard

/-- THE SECOND FORM's CARD OF 'tidingslaw14.TopicLevels'. -/
def topicLevelsUptoCard : Claim7 := { stood := { row := topicLevelsUptoRow, standIns := [], harness := (true, "a685bf962e438b6de7750ba51f2e0e086188114e847046601b29234309542457"), looks := false }, kinds := [], alts := [], laidByText := true, laidKinds := [.data, .pinned], laidTests := true, laidLooks := .later }
def TopicLevelsUptoCardSaid : Prop := Claim7.holds Tryd.pinned (.plain (OpenSpec.upto topicLevelsSpec)) topicLevelsUptoCard

/-- THE SECOND FORM's CARD OF 'tidingslaw14.TopicForms'. -/
def topicFormsUptoCard : Claim7 := { stood := { row := topicFormsUptoRow, standIns := [], harness := (true, "a685bf962e438b6de7750ba51f2e0e086188114e847046601b29234309542457"), looks := false }, kinds := [], alts := [], laidByText := true, laidKinds := [.data, .pinned], laidTests := true, laidLooks := .later }
def TopicFormsUptoCardSaid : Prop := Claim7.holds Tryd.pinned (.plain (OpenSpec.upto topicFormsSpec)) topicFormsUptoCard

/-- THE SECOND FORM's CARD OF 'tidingslaw14.TopicEnds'. -/
def topicEndsUptoCard : Claim7 := { stood := { row := topicEndsUptoRow, standIns := [], harness := (true, "a685bf962e438b6de7750ba51f2e0e086188114e847046601b29234309542457"), looks := false }, kinds := [], alts := [], laidByText := true, laidKinds := [.data, .pinned], laidTests := true, laidLooks := .later }
def TopicEndsUptoCardSaid : Prop := Claim7.holds Tryd.pinned (.plain (OpenSpec.upto topicEndsSpec)) topicEndsUptoCard
end Rows
end Go.Proofs.YtochhdiilicpgaaDoor
