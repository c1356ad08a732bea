/-
  DERIVED. GIVEN WITH THE SEED: THE CARDS: each row of YtifkaepdialfjaaDoorRows.lean that lists a variable, with what it lists TIED to the program's text (the seventh form; the later family's looks); each row that meets fmt, with fmt's text TOLD by the authors' own Lean function (tested against real Go, not proved from fmt's source: count such statements apart). THE CARD IS WHAT COUNTS. Prove the row's statement (the work); the ties are given (YtifkaepdialfjaaDoorTie.lean); close each card by the builder's one call (the guide's Derived/Test/ToyasCard.lean, 'card_holds'). Laid BY PROGRAM, IN A SANDBOX (cutbox-door.mjs). By AI agents, Wed Nov 11 2026. No macro, syntax, notation, axiom, sorry.
-/
import Derived.Test.YtifkaepdialfjaaDoorRows
import GoSem.ClaimSeven
namespace Go.Proofs.YtifkaepdialfjaaDoor
namespace Rows

/-- THE TIED CARD OF 'tutorlaw10.TeachShows'. -/
def teachShowsCard : Claim7 := { stood := { row := teachShowsRow, standIns := [], harness := (true, "2e8b84f47d33bb8307dd5c3a4f6d3caf63ee274a2a085903f4875a959a4b9ae5"), looks := true }, kinds := [], alts := [], laidByText := true, laidKinds := [.data, .data, .data], laidTests := true, laidLooks := .later }
def TeachShowsCardSaid : Prop := Claim7.holds Tryd.pinned (.plain (OpenSpec.ofChange teachShowsSpec)) teachShowsCard

/-- THE TIED CARD OF 'tutorlaw10.TeachBack'. -/
def teachBackCard : Claim7 := { stood := { row := teachBackRow, standIns := [], harness := (true, "2e8b84f47d33bb8307dd5c3a4f6d3caf63ee274a2a085903f4875a959a4b9ae5"), looks := true }, kinds := [], alts := [], laidByText := true, laidKinds := [.data, .data, .data], laidTests := true, laidLooks := .later }
def TeachBackCardSaid : Prop := Claim7.holds Tryd.pinned (.plain (OpenSpec.ofChange teachBackSpec)) teachBackCard

/-- THE SECOND FORM's CARD OF 'tutorlaw10.TeachShows'. -/
def teachShowsUptoCard : Claim7 := { stood := { row := teachShowsUptoRow, standIns := [], harness := (true, "2e8b84f47d33bb8307dd5c3a4f6d3caf63ee274a2a085903f4875a959a4b9ae5"), looks := true }, kinds := [], alts := [], laidByText := true, laidKinds := [.data, .data, .data], laidTests := true, laidLooks := .later }
def TeachShowsUptoCardSaid : Prop := Claim7.holds Tryd.pinned (.plain (OpenSpec.upto teachShowsSpec)) teachShowsUptoCard

/-- THE SECOND FORM's CARD OF 'tutorlaw10.TeachBack'. -/
def teachBackUptoCard : Claim7 := { stood := { row := teachBackUptoRow, standIns := [], harness := (true, "2e8b84f47d33bb8307dd5c3a4f6d3caf63ee274a2a085903f4875a959a4b9ae5"), looks := true }, kinds := [], alts := [], laidByText := true, laidKinds := [.data, .data, .data], laidTests := true, laidLooks := .later }
def TeachBackUptoCardSaid : Prop := Claim7.holds Tryd.pinned (.plain (OpenSpec.upto teachBackSpec)) teachBackUptoCard
end Rows
end Go.Proofs.YtifkaepdialfjaaDoor
