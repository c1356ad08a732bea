/-
  DERIVED. GIVEN WITH THE SEED: THE CARDS: each row of YtghgpadmkdfanaaDoorRows.lean that lists a variable, with what it lists TIED to the program's text (the seventh form; the later family's looks); each row that meets fmt, with fmt's text TOLD by the authors' own Lean function (tested against real Go, not proved from fmt's source: count such statements apart). THE CARD IS WHAT COUNTS. Prove the row's statement (the work); the ties are given (YtghgpadmkdfanaaDoorTie.lean); close each card by the builder's one call (the guide's Derived/Test/ToyasCard.lean, 'card_holds'). Laid BY PROGRAM, IN A SANDBOX (cutbox-door.mjs). By AI agents, Wed Nov 11 2026. No macro, syntax, notation, axiom, sorry.
-/
import Derived.Test.YtghgpadmkdfanaaDoorRows
import GoSem.ClaimSeven
namespace Go.Proofs.YtghgpadmkdfanaaDoor
namespace Rows

/-- THE TIED CARD OF 'tutorlaw09.DotDraws'. -/
def dotDrawsCard : Claim7 := { stood := { row := dotDrawsRow, standIns := [], harness := (true, "ff4f57ebce759ee381c90a20831467480fb2ab49f5c59e4a1b195add144c77e6"), looks := false }, kinds := [], alts := [], laidByText := true, laidKinds := [.data, .data, .data], laidTests := true, laidLooks := .later }
def DotDrawsCardSaid : Prop := Claim7.holds Tryd.pinned (.plain (OpenSpec.ofChange dotDrawsSpec)) dotDrawsCard

/-- THE TIED CARD OF 'tutorlaw09.DotApart'. -/
def dotApartCard : Claim7 := { stood := { row := dotApartRow, standIns := [], harness := (true, "ff4f57ebce759ee381c90a20831467480fb2ab49f5c59e4a1b195add144c77e6"), looks := false }, kinds := [], alts := [], laidByText := true, laidKinds := [.data, .data, .data], laidTests := true, laidLooks := .later }
def DotApartCardSaid : Prop := Claim7.holds Tryd.pinned (.plain (OpenSpec.ofChange dotApartSpec)) dotApartCard

/-- THE TIED CARD OF 'tutorlaw09.DotLines'. -/
def dotLinesCard : Claim7 := { stood := { row := dotLinesRow, standIns := [], harness := (true, "ff4f57ebce759ee381c90a20831467480fb2ab49f5c59e4a1b195add144c77e6"), looks := false }, kinds := [], alts := [], laidByText := true, laidKinds := [.data, .data, .data], laidTests := true, laidLooks := .later }
def DotLinesCardSaid : Prop := Claim7.holds Tryd.pinned (.plain (OpenSpec.ofChange dotLinesSpec)) dotLinesCard

/-- THE SECOND FORM's CARD OF 'tutorlaw09.DotDraws'. -/
def dotDrawsUptoCard : Claim7 := { stood := { row := dotDrawsUptoRow, standIns := [], harness := (true, "ff4f57ebce759ee381c90a20831467480fb2ab49f5c59e4a1b195add144c77e6"), looks := false }, kinds := [], alts := [], laidByText := true, laidKinds := [.data, .data, .data], laidTests := true, laidLooks := .later }
def DotDrawsUptoCardSaid : Prop := Claim7.holds Tryd.pinned (.plain (OpenSpec.upto dotDrawsSpec)) dotDrawsUptoCard

/-- THE SECOND FORM's CARD OF 'tutorlaw09.DotApart'. -/
def dotApartUptoCard : Claim7 := { stood := { row := dotApartUptoRow, standIns := [], harness := (true, "ff4f57ebce759ee381c90a20831467480fb2ab49f5c59e4a1b195add144c77e6"), looks := false }, kinds := [], alts := [], laidByText := true, laidKinds := [.data, .data, .data], laidTests := true, laidLooks := .later }
def DotApartUptoCardSaid : Prop := Claim7.holds Tryd.pinned (.plain (OpenSpec.upto dotApartSpec)) dotApartUptoCard

/-- THE SECOND FORM's CARD OF 'tutorlaw09.DotLines'. -/
def dotLinesUptoCard : Claim7 := { stood := { row := dotLinesUptoRow, standIns := [], harness := (true, "ff4f57ebce759ee381c90a20831467480fb2ab49f5c59e4a1b195add144c77e6"), looks := false }, kinds := [], alts := [], laidByText := true, laidKinds := [.data, .data, .data], laidTests := true, laidLooks := .later }
def DotLinesUptoCardSaid : Prop := Claim7.holds Tryd.pinned (.plain (OpenSpec.upto dotLinesSpec)) dotLinesUptoCard
end Rows
end Go.Proofs.YtghgpadmkdfanaaDoor
