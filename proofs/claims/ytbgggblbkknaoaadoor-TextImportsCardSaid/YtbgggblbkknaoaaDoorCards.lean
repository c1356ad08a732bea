/-
  DERIVED. GIVEN WITH THE SEED: THE CARDS: each row of YtbgggblbkknaoaaDoorRows.lean that lists a variable, with what it lists TIED to the program's text (the seventh form; the later family's looks); each row that meets fmt, with fmt's text TOLD by the authors' own Lean function (tested against real Go, not proved from fmt's source: count such statements apart). THE CARD IS WHAT COUNTS. Prove the row's statement (the work); the ties are given (YtbgggblbkknaoaaDoorTie.lean); close each card by the builder's one call (the guide's Derived/Test/ToyasCard.lean, 'card_holds'). Laid BY PROGRAM, IN A SANDBOX (cutbox-door.mjs). By AI agents, Wed Nov 11 2026. No macro, syntax, notation, axiom, sorry.
-/
import Derived.Test.YtbgggblbkknaoaaDoorRows
import GoSem.ClaimSeven
namespace Go.Proofs.YtbgggblbkknaoaaDoor
namespace Rows

/-- THE TIED CARD OF 'tutorlaw08.TextExports'. -/
def textExportsCard : Claim7 := { stood := { row := textExportsRow, standIns := [], harness := (true, "5d5879f2afe7b77bf39de7004c7040ee2af99e8781f2075c2df9eb6fdd975b3e"), looks := true }, kinds := [], alts := [], laidByText := true, laidKinds := [.data, .data, .data, .handle, .sentinel], laidTests := true, laidLooks := .later }
def TextExportsCardSaid : Prop := Claim7.holds Tryd.pinned (.plain (OpenSpec.ofChange textExportsSpec)) textExportsCard

/-- THE TIED CARD OF 'tutorlaw08.TextImports'. -/
def textImportsCard : Claim7 := { stood := { row := textImportsRow, standIns := [], harness := (true, "5d5879f2afe7b77bf39de7004c7040ee2af99e8781f2075c2df9eb6fdd975b3e"), looks := true }, kinds := [], alts := [], laidByText := true, laidKinds := [.data, .data, .data, .handle, .sentinel], laidTests := true, laidLooks := .later }
def TextImportsCardSaid : Prop := Claim7.holds Tryd.pinned (.plain (OpenSpec.ofChange textImportsSpec)) textImportsCard

/-- THE TIED CARD OF 'tutorlaw08.TextNumbers'. -/
def textNumbersCard : Claim7 := { stood := { row := textNumbersRow, standIns := [], harness := (true, "5d5879f2afe7b77bf39de7004c7040ee2af99e8781f2075c2df9eb6fdd975b3e"), looks := true }, kinds := [], alts := [], laidByText := true, laidKinds := [.data, .data, .data, .handle, .sentinel], laidTests := true, laidLooks := .later }
def TextNumbersCardSaid : Prop := Claim7.holds Tryd.pinned (.plain (OpenSpec.ofChange textNumbersSpec)) textNumbersCard

/-- THE TIED CARD OF 'tutorlaw08.TextBack'. -/
def textBackCard : Claim7 := { stood := { row := textBackRow, standIns := [], harness := (true, "5d5879f2afe7b77bf39de7004c7040ee2af99e8781f2075c2df9eb6fdd975b3e"), looks := true }, kinds := [], alts := [], laidByText := true, laidKinds := [.data, .data, .data, .handle, .sentinel], laidTests := true, laidLooks := .later }
def TextBackCardSaid : Prop := Claim7.holds Tryd.pinned (.plain (OpenSpec.ofChange textBackSpec)) textBackCard

/-- THE TIED CARD OF 'tutorlaw08.TextThere'. -/
def textThereCard : Claim7 := { stood := { row := textThereRow, standIns := [], harness := (true, "5d5879f2afe7b77bf39de7004c7040ee2af99e8781f2075c2df9eb6fdd975b3e"), looks := true }, kinds := [], alts := [], laidByText := true, laidKinds := [.data, .data, .data, .handle, .sentinel], laidTests := true, laidLooks := .later }
def TextThereCardSaid : Prop := Claim7.holds Tryd.pinned (.plain (OpenSpec.ofChange textThereSpec)) textThereCard

/-- THE TIED CARD OF 'tutorlaw08.TextOne'. -/
def textOneCard : Claim7 := { stood := { row := textOneRow, standIns := [], harness := (true, "5d5879f2afe7b77bf39de7004c7040ee2af99e8781f2075c2df9eb6fdd975b3e"), looks := true }, kinds := [], alts := [], laidByText := true, laidKinds := [.data, .data, .data, .handle, .sentinel], laidTests := true, laidLooks := .later }
def TextOneCardSaid : Prop := Claim7.holds Tryd.pinned (.plain (OpenSpec.ofChange textOneSpec)) textOneCard

/-- THE TIED CARD OF 'tutorlaw08.TextCuts'. -/
def textCutsCard : Claim7 := { stood := { row := textCutsRow, standIns := [], harness := (true, "5d5879f2afe7b77bf39de7004c7040ee2af99e8781f2075c2df9eb6fdd975b3e"), looks := true }, kinds := [], alts := [], laidByText := true, laidKinds := [.data, .data, .data, .handle, .sentinel], laidTests := true, laidLooks := .later }
def TextCutsCardSaid : Prop := Claim7.holds Tryd.pinned (.plain (OpenSpec.ofChange textCutsSpec)) textCutsCard

/-- THE TIED CARD OF 'tutorlaw08.TextOwn'. -/
def textOwnCard : Claim7 := { stood := { row := textOwnRow, standIns := [], harness := (true, "5d5879f2afe7b77bf39de7004c7040ee2af99e8781f2075c2df9eb6fdd975b3e"), looks := true }, kinds := [], alts := [], laidByText := true, laidKinds := [.data, .data, .data, .handle, .sentinel], laidTests := true, laidLooks := .later }
def TextOwnCardSaid : Prop := Claim7.holds Tryd.pinned (.plain (OpenSpec.ofChange textOwnSpec)) textOwnCard

/-- THE SECOND FORM's CARD OF 'tutorlaw08.TextExports'. -/
def textExportsUptoCard : Claim7 := { stood := { row := textExportsUptoRow, standIns := [], harness := (true, "5d5879f2afe7b77bf39de7004c7040ee2af99e8781f2075c2df9eb6fdd975b3e"), looks := true }, kinds := [], alts := [], laidByText := true, laidKinds := [.data, .data, .data, .handle, .sentinel], laidTests := true, laidLooks := .later }
def TextExportsUptoCardSaid : Prop := Claim7.holds Tryd.pinned (.plain (OpenSpec.upto textExportsSpec)) textExportsUptoCard

/-- THE SECOND FORM's CARD OF 'tutorlaw08.TextImports'. -/
def textImportsUptoCard : Claim7 := { stood := { row := textImportsUptoRow, standIns := [], harness := (true, "5d5879f2afe7b77bf39de7004c7040ee2af99e8781f2075c2df9eb6fdd975b3e"), looks := true }, kinds := [], alts := [], laidByText := true, laidKinds := [.data, .data, .data, .handle, .sentinel], laidTests := true, laidLooks := .later }
def TextImportsUptoCardSaid : Prop := Claim7.holds Tryd.pinned (.plain (OpenSpec.upto textImportsSpec)) textImportsUptoCard

/-- THE SECOND FORM's CARD OF 'tutorlaw08.TextNumbers'. -/
def textNumbersUptoCard : Claim7 := { stood := { row := textNumbersUptoRow, standIns := [], harness := (true, "5d5879f2afe7b77bf39de7004c7040ee2af99e8781f2075c2df9eb6fdd975b3e"), looks := true }, kinds := [], alts := [], laidByText := true, laidKinds := [.data, .data, .data, .handle, .sentinel], laidTests := true, laidLooks := .later }
def TextNumbersUptoCardSaid : Prop := Claim7.holds Tryd.pinned (.plain (OpenSpec.upto textNumbersSpec)) textNumbersUptoCard

/-- THE SECOND FORM's CARD OF 'tutorlaw08.TextBack'. -/
def textBackUptoCard : Claim7 := { stood := { row := textBackUptoRow, standIns := [], harness := (true, "5d5879f2afe7b77bf39de7004c7040ee2af99e8781f2075c2df9eb6fdd975b3e"), looks := true }, kinds := [], alts := [], laidByText := true, laidKinds := [.data, .data, .data, .handle, .sentinel], laidTests := true, laidLooks := .later }
def TextBackUptoCardSaid : Prop := Claim7.holds Tryd.pinned (.plain (OpenSpec.upto textBackSpec)) textBackUptoCard

/-- THE SECOND FORM's CARD OF 'tutorlaw08.TextThere'. -/
def textThereUptoCard : Claim7 := { stood := { row := textThereUptoRow, standIns := [], harness := (true, "5d5879f2afe7b77bf39de7004c7040ee2af99e8781f2075c2df9eb6fdd975b3e"), looks := true }, kinds := [], alts := [], laidByText := true, laidKinds := [.data, .data, .data, .handle, .sentinel], laidTests := true, laidLooks := .later }
def TextThereUptoCardSaid : Prop := Claim7.holds Tryd.pinned (.plain (OpenSpec.upto textThereSpec)) textThereUptoCard

/-- THE SECOND FORM's CARD OF 'tutorlaw08.TextOne'. -/
def textOneUptoCard : Claim7 := { stood := { row := textOneUptoRow, standIns := [], harness := (true, "5d5879f2afe7b77bf39de7004c7040ee2af99e8781f2075c2df9eb6fdd975b3e"), looks := true }, kinds := [], alts := [], laidByText := true, laidKinds := [.data, .data, .data, .handle, .sentinel], laidTests := true, laidLooks := .later }
def TextOneUptoCardSaid : Prop := Claim7.holds Tryd.pinned (.plain (OpenSpec.upto textOneSpec)) textOneUptoCard

/-- THE SECOND FORM's CARD OF 'tutorlaw08.TextCuts'. -/
def textCutsUptoCard : Claim7 := { stood := { row := textCutsUptoRow, standIns := [], harness := (true, "5d5879f2afe7b77bf39de7004c7040ee2af99e8781f2075c2df9eb6fdd975b3e"), looks := true }, kinds := [], alts := [], laidByText := true, laidKinds := [.data, .data, .data, .handle, .sentinel], laidTests := true, laidLooks := .later }
def TextCutsUptoCardSaid : Prop := Claim7.holds Tryd.pinned (.plain (OpenSpec.upto textCutsSpec)) textCutsUptoCard

/-- THE SECOND FORM's CARD OF 'tutorlaw08.TextOwn'. -/
def textOwnUptoCard : Claim7 := { stood := { row := textOwnUptoRow, standIns := [], harness := (true, "5d5879f2afe7b77bf39de7004c7040ee2af99e8781f2075c2df9eb6fdd975b3e"), looks := true }, kinds := [], alts := [], laidByText := true, laidKinds := [.data, .data, .data, .handle, .sentinel], laidTests := true, laidLooks := .later }
def TextOwnUptoCardSaid : Prop := Claim7.holds Tryd.pinned (.plain (OpenSpec.upto textOwnSpec)) textOwnUptoCard
end Rows
end Go.Proofs.YtbgggblbkknaoaaDoor
