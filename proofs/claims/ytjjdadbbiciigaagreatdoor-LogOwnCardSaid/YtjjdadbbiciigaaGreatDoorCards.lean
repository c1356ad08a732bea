/-
  DERIVED. GIVEN WITH THE SEED: THE CARDS: each row of YtjjdadbbiciigaaGreatDoorRows.lean that lists a variable, with what it lists TIED to the program's text (the seventh form; the later family's looks); each row that meets fmt, with fmt's text TOLD by the authors' own Lean function (tested against real Go, not proved from fmt's source: count such statements apart). THE CARD IS WHAT COUNTS. Prove the row's statement (the work); the ties are given (YtjjdadbbiciigaaGreatDoorTie.lean); close each card by the builder's one call (the guide's Derived/Test/ToyasCard.lean, 'card_holds'). Laid BY PROGRAM, IN A SANDBOX (cutbox-door.mjs). By AI agents, Wed Nov 11 2026. No macro, syntax, notation, axiom, sorry.
-/
import Derived.Test.YtjjdadbbiciigaaGreatDoorRows
import GoSem.ClaimSeven
namespace Go.Proofs.YtjjdadbbiciigaaGreatDoor
namespace Rows

/-- THE TIED CARD OF 'tutorlaw27.LogChecks'. -/
def logChecksCard : Claim7 := { stood := { row := logChecksRow, standIns := [], harness := (true, "418a88ed3f4c226f5c55c36b9cf9471c5ee7bff5726b80130bb12cc248bf20fe"), looks := true }, kinds := [], alts := [], laidByText := true, laidKinds := [.data, .data, .data, .handle], laidTests := true, laidLooks := .later }
def LogChecksCardSaid : Prop := Claim7.holds Tryz.pinned (.plain (OpenSpec.ofChange logChecksSpec)) logChecksCard

/-- THE TIED CARD OF 'tutorlaw27.LogShows'. -/
def logShowsCard : Claim7 := { stood := { row := logShowsRow, standIns := [], harness := (true, "418a88ed3f4c226f5c55c36b9cf9471c5ee7bff5726b80130bb12cc248bf20fe"), looks := true }, kinds := [], alts := [], laidByText := true, laidKinds := [.data, .data, .data, .handle], laidTests := true, laidLooks := .later }
def LogShowsCardSaid : Prop := Claim7.holds Tryz.pinned (.plain (OpenSpec.ofChange logShowsSpec)) logShowsCard

/-- THE TIED CARD OF 'tutorlaw27.LogParses'. -/
def logParsesCard : Claim7 := { stood := { row := logParsesRow, standIns := [], harness := (true, "418a88ed3f4c226f5c55c36b9cf9471c5ee7bff5726b80130bb12cc248bf20fe"), looks := true }, kinds := [], alts := [], laidByText := true, laidKinds := [.data, .data, .data, .handle], laidTests := true, laidLooks := .later }
def LogParsesCardSaid : Prop := Claim7.holds Tryz.pinned (.plain (OpenSpec.ofChange logParsesSpec)) logParsesCard

/-- THE TIED CARD OF 'tutorlaw27.LogBack'. -/
def logBackCard : Claim7 := { stood := { row := logBackRow, standIns := [], harness := (true, "418a88ed3f4c226f5c55c36b9cf9471c5ee7bff5726b80130bb12cc248bf20fe"), looks := true }, kinds := [], alts := [], laidByText := true, laidKinds := [.data, .data, .data, .handle], laidTests := true, laidLooks := .later }
def LogBackCardSaid : Prop := Claim7.holds Tryz.pinned (.plain (OpenSpec.ofChange logBackSpec)) logBackCard

/-- THE TIED CARD OF 'tutorlaw27.LogOwn'. -/
def logOwnCard : Claim7 := { stood := { row := logOwnRow, standIns := [], harness := (true, "418a88ed3f4c226f5c55c36b9cf9471c5ee7bff5726b80130bb12cc248bf20fe"), looks := true }, kinds := [], alts := [], laidByText := true, laidKinds := [.data, .data, .data, .handle], laidTests := true, laidLooks := .later }
def LogOwnCardSaid : Prop := Claim7.holds Tryz.pinned (.plain (OpenSpec.ofChange logOwnSpec)) logOwnCard

/-- THE TIED CARD OF 'tutorlaw27.LogTrue'. -/
def logTrueCard : Claim7 := { stood := { row := logTrueRow, standIns := [], harness := (true, "418a88ed3f4c226f5c55c36b9cf9471c5ee7bff5726b80130bb12cc248bf20fe"), looks := true }, kinds := [], alts := [], laidByText := true, laidKinds := [.data, .data, .data, .handle], laidTests := true, laidLooks := .later }
def LogTrueCardSaid : Prop := Claim7.holds Tryz.pinned (.plain (OpenSpec.ofChange logTrueSpec)) logTrueCard

/-- THE TIED CARD OF 'tutorlaw27.LogTakes'. -/
def logTakesCard : Claim7 := { stood := { row := logTakesRow, standIns := [], harness := (true, "418a88ed3f4c226f5c55c36b9cf9471c5ee7bff5726b80130bb12cc248bf20fe"), looks := true }, kinds := [], alts := [], laidByText := true, laidKinds := [.data, .data, .data, .handle], laidTests := true, laidLooks := .later }
def LogTakesCardSaid : Prop := Claim7.holds Tryz.pinned (.plain (OpenSpec.ofChange logTakesSpec)) logTakesCard

/-- THE SECOND FORM's CARD OF 'tutorlaw27.LogChecks'. -/
def logChecksUptoCard : Claim7 := { stood := { row := logChecksUptoRow, standIns := [], harness := (true, "418a88ed3f4c226f5c55c36b9cf9471c5ee7bff5726b80130bb12cc248bf20fe"), looks := true }, kinds := [], alts := [], laidByText := true, laidKinds := [.data, .data, .data, .handle], laidTests := true, laidLooks := .later }
def LogChecksUptoCardSaid : Prop := Claim7.holds Tryz.pinned (.plain (OpenSpec.upto logChecksSpec)) logChecksUptoCard

/-- THE SECOND FORM's CARD OF 'tutorlaw27.LogShows'. -/
def logShowsUptoCard : Claim7 := { stood := { row := logShowsUptoRow, standIns := [], harness := (true, "418a88ed3f4c226f5c55c36b9cf9471c5ee7bff5726b80130bb12cc248bf20fe"), looks := true }, kinds := [], alts := [], laidByText := true, laidKinds := [.data, .data, .data, .handle], laidTests := true, laidLooks := .later }
def LogShowsUptoCardSaid : Prop := Claim7.holds Tryz.pinned (.plain (OpenSpec.upto logShowsSpec)) logShowsUptoCard

/-- THE SECOND FORM's CARD OF 'tutorlaw27.LogParses'. -/
def logParsesUptoCard : Claim7 := { stood := { row := logParsesUptoRow, standIns := [], harness := (true, "418a88ed3f4c226f5c55c36b9cf9471c5ee7bff5726b80130bb12cc248bf20fe"), looks := true }, kinds := [], alts := [], laidByText := true, laidKinds := [.data, .data, .data, .handle], laidTests := true, laidLooks := .later }
def LogParsesUptoCardSaid : Prop := Claim7.holds Tryz.pinned (.plain (OpenSpec.upto logParsesSpec)) logParsesUptoCard

/-- THE SECOND FORM's CARD OF 'tutorlaw27.LogBack'. -/
def logBackUptoCard : Claim7 := { stood := { row := logBackUptoRow, standIns := [], harness := (true, "418a88ed3f4c226f5c55c36b9cf9471c5ee7bff5726b80130bb12cc248bf20fe"), looks := true }, kinds := [], alts := [], laidByText := true, laidKinds := [.data, .data, .data, .handle], laidTests := true, laidLooks := .later }
def LogBackUptoCardSaid : Prop := Claim7.holds Tryz.pinned (.plain (OpenSpec.upto logBackSpec)) logBackUptoCard

/-- THE SECOND FORM's CARD OF 'tutorlaw27.LogOwn'. -/
def logOwnUptoCard : Claim7 := { stood := { row := logOwnUptoRow, standIns := [], harness := (true, "418a88ed3f4c226f5c55c36b9cf9471c5ee7bff5726b80130bb12cc248bf20fe"), looks := true }, kinds := [], alts := [], laidByText := true, laidKinds := [.data, .data, .data, .handle], laidTests := true, laidLooks := .later }
def LogOwnUptoCardSaid : Prop := Claim7.holds Tryz.pinned (.plain (OpenSpec.upto logOwnSpec)) logOwnUptoCard

/-- THE SECOND FORM's CARD OF 'tutorlaw27.LogTrue'. -/
def logTrueUptoCard : Claim7 := { stood := { row := logTrueUptoRow, standIns := [], harness := (true, "418a88ed3f4c226f5c55c36b9cf9471c5ee7bff5726b80130bb12cc248bf20fe"), looks := true }, kinds := [], alts := [], laidByText := true, laidKinds := [.data, .data, .data, .handle], laidTests := true, laidLooks := .later }
def LogTrueUptoCardSaid : Prop := Claim7.holds Tryz.pinned (.plain (OpenSpec.upto logTrueSpec)) logTrueUptoCard

/-- THE SECOND FORM's CARD OF 'tutorlaw27.LogTakes'. -/
def logTakesUptoCard : Claim7 := { stood := { row := logTakesUptoRow, standIns := [], harness := (true, "418a88ed3f4c226f5c55c36b9cf9471c5ee7bff5726b80130bb12cc248bf20fe"), looks := true }, kinds := [], alts := [], laidByText := true, laidKinds := [.data, .data, .data, .handle], laidTests := true, laidLooks := .later }
def LogTakesUptoCardSaid : Prop := Claim7.holds Tryz.pinned (.plain (OpenSpec.upto logTakesSpec)) logTakesUptoCard
end Rows
end Go.Proofs.YtjjdadbbiciigaaGreatDoor
