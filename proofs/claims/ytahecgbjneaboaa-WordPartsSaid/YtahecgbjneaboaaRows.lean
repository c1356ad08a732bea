/-
  No cell of these rows narrows 'for every input' (looked for: loops, veiled, ifaces, maps, wideKeys, modest, calm, conditions, laid).
  DERIVED. THE GIVEN ROWS OF THIS SEAT. 9 by the template 'for every input the law returns true; each argument reads behind the call as it read before'; 0 by the template 'total and deterministic' (their statements: YtahecgbjneaboaaTotals.lean).
  GIVEN WITH THE SEED: the statements are not yours to turn. If you find one false, say at which input.
  Laid BY PROGRAM, IN A SANDBOX (cutbox-rows.mjs): the forced cells as the released guide's own fill.sh prints them over the translation e811d9b65b1d740c… (all of the seat's roots in one cut). By AI agents, Wed Nov 11 2026. No macro, syntax, notation, axiom, sorry.
-/
import Derived.Test.YtahecgbjneaboaaChecked
import GoSem.Claim
import GoSem.ClaimJoined
import GoSem.ClaimMapViews
import Derived.JoinedTies
import Derived.KernelRfl
namespace Go.Proofs.Ytahecgbjneaboaa
/- THE CELL 'sum', in the pinned program and in every row, IS THE sha256 OF THE DUMP (.gsa) THAT YtahecgbjneaboaaProg.lean LOADS. Nothing in Lean hashes anything: it is a label: what it is worth is what the hold of that sum in a sandbox is worth. -/
noncomputable def Try.pinned : Pinned := { name := "ytahecgbjneaboaa", sum := "e811d9b65b1d740c1f6b7cfcf0363f44e06dd61dc170867e27973e6007772ddd", checked := Try.checked }
namespace Rows
def none {H : Type} : Left H := { results := [], args := [] }

/-- 'tutorlaw01.WordChecks': WHATEVER THE INPUT: true; the input reads as it did. -/
def wordChecksSpec : ChangeSpec := { name := "wordChecks", fn := fun _ => fun
  | [d1, d2] => { results := [.lit (.bool true)], args := [d1, d2] }
  | _ => none }
def wordChecksRow : OpenClaim := { program := "ytahecgbjneaboaa", sum := "e811d9b65b1d740c1f6b7cfcf0363f44e06dd61dc170867e27973e6007772ddd", func := "tutor/tutorlaw01.WordChecks", spec := "wordChecks", apart := false }
def WordChecksSaid : Prop := wordChecksRow.holds Try.pinned (OpenSpec.ofChange wordChecksSpec)

/-- ITS FALSE NEIGHBOUR: 'it returns false'. Refute it at one input. -/
def wordChecksWrong : ChangeSpec := { name := "wordChecks", fn := fun _ => fun
  | [d1, d2] => { results := [.lit (.bool false)], args := [d1, d2] }
  | _ => none }
def WordChecksWrongFalsely : Prop := wordChecksRow.holds Try.pinned (OpenSpec.ofChange wordChecksWrong)

/-- 'tutorlaw01.WordOrders': WHATEVER THE INPUT: true; the input reads as it did. -/
def wordOrdersSpec : ChangeSpec := { name := "wordOrders", fn := fun _ => fun
  | [d1, d2] => { results := [.lit (.bool true)], args := [d1, d2] }
  | _ => none }
def wordOrdersRow : OpenClaim := { program := "ytahecgbjneaboaa", sum := "e811d9b65b1d740c1f6b7cfcf0363f44e06dd61dc170867e27973e6007772ddd", func := "tutor/tutorlaw01.WordOrders", spec := "wordOrders", apart := false }
def WordOrdersSaid : Prop := wordOrdersRow.holds Try.pinned (OpenSpec.ofChange wordOrdersSpec)

/-- ITS FALSE NEIGHBOUR: 'it returns false'. Refute it at one input. -/
def wordOrdersWrong : ChangeSpec := { name := "wordOrders", fn := fun _ => fun
  | [d1, d2] => { results := [.lit (.bool false)], args := [d1, d2] }
  | _ => none }
def WordOrdersWrongFalsely : Prop := wordOrdersRow.holds Try.pinned (OpenSpec.ofChange wordOrdersWrong)

/-- 'tutorlaw01.WordNexts': WHATEVER THE INPUT: true; the input reads as it did. -/
def wordNextsSpec : ChangeSpec := { name := "wordNexts", fn := fun _ => fun
  | [d1, d2] => { results := [.lit (.bool true)], args := [d1, d2] }
  | _ => none }
def wordNextsRow : OpenClaim := { program := "ytahecgbjneaboaa", sum := "e811d9b65b1d740c1f6b7cfcf0363f44e06dd61dc170867e27973e6007772ddd", func := "tutor/tutorlaw01.WordNexts", spec := "wordNexts", apart := false }
def WordNextsSaid : Prop := wordNextsRow.holds Try.pinned (OpenSpec.ofChange wordNextsSpec)

/-- ITS FALSE NEIGHBOUR: 'it returns false'. Refute it at one input. -/
def wordNextsWrong : ChangeSpec := { name := "wordNexts", fn := fun _ => fun
  | [d1, d2] => { results := [.lit (.bool false)], args := [d1, d2] }
  | _ => none }
def WordNextsWrongFalsely : Prop := wordNextsRow.holds Try.pinned (OpenSpec.ofChange wordNextsWrong)

/-- 'tutorlaw01.WordCounts': WHATEVER THE INPUT: true; the input reads as it did. -/
def wordCountsSpec : ChangeSpec := { name := "wordCounts", fn := fun _ => fun
  | [d1, d2, d3, d4] => { results := [.lit (.bool true)], args := [d1, d2, d3, d4] }
  | _ => none }
def wordCountsRow : OpenClaim := { program := "ytahecgbjneaboaa", sum := "e811d9b65b1d740c1f6b7cfcf0363f44e06dd61dc170867e27973e6007772ddd", func := "tutor/tutorlaw01.WordCounts", spec := "wordCounts", apart := false }
def WordCountsSaid : Prop := wordCountsRow.holds Try.pinned (OpenSpec.ofChange wordCountsSpec)

/-- ITS FALSE NEIGHBOUR: 'it returns false'. Refute it at one input. -/
def wordCountsWrong : ChangeSpec := { name := "wordCounts", fn := fun _ => fun
  | [d1, d2, d3, d4] => { results := [.lit (.bool false)], args := [d1, d2, d3, d4] }
  | _ => none }
def WordCountsWrongFalsely : Prop := wordCountsRow.holds Try.pinned (OpenSpec.ofChange wordCountsWrong)

/-- 'tutorlaw01.WordPlaces': WHATEVER THE INPUT: true; the input reads as it did. -/
def wordPlacesSpec : ChangeSpec := { name := "wordPlaces", fn := fun _ => fun
  | [d1, d2, d3] => { results := [.lit (.bool true)], args := [d1, d2, d3] }
  | _ => none }
def wordPlacesRow : OpenClaim := { program := "ytahecgbjneaboaa", sum := "e811d9b65b1d740c1f6b7cfcf0363f44e06dd61dc170867e27973e6007772ddd", func := "tutor/tutorlaw01.WordPlaces", spec := "wordPlaces", apart := false }
def WordPlacesSaid : Prop := wordPlacesRow.holds Try.pinned (OpenSpec.ofChange wordPlacesSpec)

/-- ITS FALSE NEIGHBOUR: 'it returns false'. Refute it at one input. -/
def wordPlacesWrong : ChangeSpec := { name := "wordPlaces", fn := fun _ => fun
  | [d1, d2, d3] => { results := [.lit (.bool false)], args := [d1, d2, d3] }
  | _ => none }
def WordPlacesWrongFalsely : Prop := wordPlacesRow.holds Try.pinned (OpenSpec.ofChange wordPlacesWrong)

/-- 'tutorlaw01.WordBetween': WHATEVER THE INPUT: true; the input reads as it did. -/
def wordBetweenSpec : ChangeSpec := { name := "wordBetween", fn := fun _ => fun
  | [d1, d2, d3] => { results := [.lit (.bool true)], args := [d1, d2, d3] }
  | _ => none }
def wordBetweenRow : OpenClaim := { program := "ytahecgbjneaboaa", sum := "e811d9b65b1d740c1f6b7cfcf0363f44e06dd61dc170867e27973e6007772ddd", func := "tutor/tutorlaw01.WordBetween", spec := "wordBetween", apart := false }
def WordBetweenSaid : Prop := wordBetweenRow.holds Try.pinned (OpenSpec.ofChange wordBetweenSpec)

/-- ITS FALSE NEIGHBOUR: 'it returns false'. Refute it at one input. -/
def wordBetweenWrong : ChangeSpec := { name := "wordBetween", fn := fun _ => fun
  | [d1, d2, d3] => { results := [.lit (.bool false)], args := [d1, d2, d3] }
  | _ => none }
def WordBetweenWrongFalsely : Prop := wordBetweenRow.holds Try.pinned (OpenSpec.ofChange wordBetweenWrong)

/-- 'tutorlaw01.WordTotal': WHATEVER THE INPUT: true; the input reads as it did. -/
def wordTotalSpec : ChangeSpec := { name := "wordTotal", fn := fun _ => fun
  | [d1, d2, d3, d4] => { results := [.lit (.bool true)], args := [d1, d2, d3, d4] }
  | _ => none }
def wordTotalRow : OpenClaim := { program := "ytahecgbjneaboaa", sum := "e811d9b65b1d740c1f6b7cfcf0363f44e06dd61dc170867e27973e6007772ddd", func := "tutor/tutorlaw01.WordTotal", spec := "wordTotal", apart := false }
def WordTotalSaid : Prop := wordTotalRow.holds Try.pinned (OpenSpec.ofChange wordTotalSpec)

/-- ITS FALSE NEIGHBOUR: 'it returns false'. Refute it at one input. -/
def wordTotalWrong : ChangeSpec := { name := "wordTotal", fn := fun _ => fun
  | [d1, d2, d3, d4] => { results := [.lit (.bool false)], args := [d1, d2, d3, d4] }
  | _ => none }
def WordTotalWrongFalsely : Prop := wordTotalRow.holds Try.pinned (OpenSpec.ofChange wordTotalWrong)

/-- 'tutorlaw01.WordBack': WHATEVER THE INPUT: true; the input reads as it did. -/
def wordBackSpec : ChangeSpec := { name := "wordBack", fn := fun _ => fun
  | [d1, d2, d3] => { results := [.lit (.bool true)], args := [d1, d2, d3] }
  | _ => none }
def wordBackRow : OpenClaim := { program := "ytahecgbjneaboaa", sum := "e811d9b65b1d740c1f6b7cfcf0363f44e06dd61dc170867e27973e6007772ddd", func := "tutor/tutorlaw01.WordBack", spec := "wordBack", apart := false }
def WordBackSaid : Prop := wordBackRow.holds Try.pinned (OpenSpec.ofChange wordBackSpec)

/-- ITS FALSE NEIGHBOUR: 'it returns false'. Refute it at one input. -/
def wordBackWrong : ChangeSpec := { name := "wordBack", fn := fun _ => fun
  | [d1, d2, d3] => { results := [.lit (.bool false)], args := [d1, d2, d3] }
  | _ => none }
def WordBackWrongFalsely : Prop := wordBackRow.holds Try.pinned (OpenSpec.ofChange wordBackWrong)

/-- 'tutorlaw01.WordParts': WHATEVER THE INPUT: true; the input reads as it did. -/
def wordPartsSpec : ChangeSpec := { name := "wordParts", fn := fun _ => fun
  | [d1, d2, d3] => { results := [.lit (.bool true)], args := [d1, d2, d3] }
  | _ => none }
def wordPartsRow : OpenClaim := { program := "ytahecgbjneaboaa", sum := "e811d9b65b1d740c1f6b7cfcf0363f44e06dd61dc170867e27973e6007772ddd", func := "tutor/tutorlaw01.WordParts", spec := "wordParts", apart := false }
def WordPartsSaid : Prop := wordPartsRow.holds Try.pinned (OpenSpec.ofChange wordPartsSpec)

/-- ITS FALSE NEIGHBOUR: 'it returns false'. Refute it at one input. -/
def wordPartsWrong : ChangeSpec := { name := "wordParts", fn := fun _ => fun
  | [d1, d2, d3] => { results := [.lit (.bool false)], args := [d1, d2, d3] }
  | _ => none }
def WordPartsWrongFalsely : Prop := wordPartsRow.holds Try.pinned (OpenSpec.ofChange wordPartsWrong)

/- THE SECOND FORM. 'bulk': how many values and letters a reading holds, each counted each time it is reached (what is shared counts as often as it is met; a slice's spare places count too). A statement '..UptoSaid' is the law's where the arguments, and the package variables that the reading takes, are together of bulk at most 1048576: NARROWER than '..Said'. Prove '..Said' where nothing that the law and all that it calls make is longer than what came in: it says more and counts as full. Else prove '..UptoSaid'. A law counts once. -/
mutual
def uptoBulk {H : Type} : DataW H → Nat
  | .lit (.string bytes) => bytes.length + 1
  | .lit _ => 1
  | .nil => 1
  | .ptr d => uptoBulk d + 1
  | .slice elems spare => uptoBulkAll elems + uptoBulkAll spare + 1
  | .agg parts => uptoBulkAll parts + 1
  | .iface _ d => uptoBulk d + 1
  | .map entries => uptoBulkEntries entries + 1
  | .held _ => 1
def uptoBulkAll {H : Type} : List (DataW H) → Nat
  | [] => 0
  | d :: r => uptoBulk d + uptoBulkAll r
def uptoBulkEntries {H : Type} : List (Lit × DataW H) → Nat
  | [] => 0
  | x :: r => uptoBulkEntry x + uptoBulkEntries r
def uptoBulkEntry {H : Type} : Lit × DataW H → Nat
  | (.string bytes, d) => bytes.length + uptoBulk d + 1
  | (_, d) => uptoBulk d + 1
 end
def uptoSmall : (H : Type) → List (DataW H) → Bool := fun _ ds => decide (uptoBulkAll ds ≤ 1048576)
def OpenSpec.upto (s : _root_.Go.ChangeSpec) : _root_.Go.OpenSpec := { _root_.Go.OpenSpec.ofChange s with cond := some uptoSmall }

/-- 'tutorlaw01.WordChecks', WHERE WHAT IT READS IS OF BULK AT MOST 1048576: true; the input reads as it did. -/
def wordChecksUptoRow : OpenClaim := { program := "ytahecgbjneaboaa", sum := "e811d9b65b1d740c1f6b7cfcf0363f44e06dd61dc170867e27973e6007772ddd", func := "tutor/tutorlaw01.WordChecks", spec := "wordChecks", apart := false, narrowed := true }
def WordChecksUptoSaid : Prop := wordChecksUptoRow.holds Try.pinned (OpenSpec.upto wordChecksSpec)

/-- 'tutorlaw01.WordOrders', WHERE WHAT IT READS IS OF BULK AT MOST 1048576: true; the input reads as it did. -/
def wordOrdersUptoRow : OpenClaim := { program := "ytahecgbjneaboaa", sum := "e811d9b65b1d740c1f6b7cfcf0363f44e06dd61dc170867e27973e6007772ddd", func := "tutor/tutorlaw01.WordOrders", spec := "wordOrders", apart := false, narrowed := true }
def WordOrdersUptoSaid : Prop := wordOrdersUptoRow.holds Try.pinned (OpenSpec.upto wordOrdersSpec)

/-- 'tutorlaw01.WordNexts', WHERE WHAT IT READS IS OF BULK AT MOST 1048576: true; the input reads as it did. -/
def wordNextsUptoRow : OpenClaim := { program := "ytahecgbjneaboaa", sum := "e811d9b65b1d740c1f6b7cfcf0363f44e06dd61dc170867e27973e6007772ddd", func := "tutor/tutorlaw01.WordNexts", spec := "wordNexts", apart := false, narrowed := true }
def WordNextsUptoSaid : Prop := wordNextsUptoRow.holds Try.pinned (OpenSpec.upto wordNextsSpec)

/-- 'tutorlaw01.WordCounts', WHERE WHAT IT READS IS OF BULK AT MOST 1048576: true; the input reads as it did. -/
def wordCountsUptoRow : OpenClaim := { program := "ytahecgbjneaboaa", sum := "e811d9b65b1d740c1f6b7cfcf0363f44e06dd61dc170867e27973e6007772ddd", func := "tutor/tutorlaw01.WordCounts", spec := "wordCounts", apart := false, narrowed := true }
def WordCountsUptoSaid : Prop := wordCountsUptoRow.holds Try.pinned (OpenSpec.upto wordCountsSpec)

/-- 'tutorlaw01.WordPlaces', WHERE WHAT IT READS IS OF BULK AT MOST 1048576: true; the input reads as it did. -/
def wordPlacesUptoRow : OpenClaim := { program := "ytahecgbjneaboaa", sum := "e811d9b65b1d740c1f6b7cfcf0363f44e06dd61dc170867e27973e6007772ddd", func := "tutor/tutorlaw01.WordPlaces", spec := "wordPlaces", apart := false, narrowed := true }
def WordPlacesUptoSaid : Prop := wordPlacesUptoRow.holds Try.pinned (OpenSpec.upto wordPlacesSpec)

/-- 'tutorlaw01.WordBetween', WHERE WHAT IT READS IS OF BULK AT MOST 1048576: true; the input reads as it did. -/
def wordBetweenUptoRow : OpenClaim := { program := "ytahecgbjneaboaa", sum := "e811d9b65b1d740c1f6b7cfcf0363f44e06dd61dc170867e27973e6007772ddd", func := "tutor/tutorlaw01.WordBetween", spec := "wordBetween", apart := false, narrowed := true }
def WordBetweenUptoSaid : Prop := wordBetweenUptoRow.holds Try.pinned (OpenSpec.upto wordBetweenSpec)

/-- 'tutorlaw01.WordTotal', WHERE WHAT IT READS IS OF BULK AT MOST 1048576: true; the input reads as it did. -/
def wordTotalUptoRow : OpenClaim := { program := "ytahecgbjneaboaa", sum := "e811d9b65b1d740c1f6b7cfcf0363f44e06dd61dc170867e27973e6007772ddd", func := "tutor/tutorlaw01.WordTotal", spec := "wordTotal", apart := false, narrowed := true }
def WordTotalUptoSaid : Prop := wordTotalUptoRow.holds Try.pinned (OpenSpec.upto wordTotalSpec)

/-- 'tutorlaw01.WordBack', WHERE WHAT IT READS IS OF BULK AT MOST 1048576: true; the input reads as it did. -/
def wordBackUptoRow : OpenClaim := { program := "ytahecgbjneaboaa", sum := "e811d9b65b1d740c1f6b7cfcf0363f44e06dd61dc170867e27973e6007772ddd", func := "tutor/tutorlaw01.WordBack", spec := "wordBack", apart := false, narrowed := true }
def WordBackUptoSaid : Prop := wordBackUptoRow.holds Try.pinned (OpenSpec.upto wordBackSpec)

/-- 'tutorlaw01.WordParts', WHERE WHAT IT READS IS OF BULK AT MOST 1048576: true; the input reads as it did. -/
def wordPartsUptoRow : OpenClaim := { program := "ytahecgbjneaboaa", sum := "e811d9b65b1d740c1f6b7cfcf0363f44e06dd61dc170867e27973e6007772ddd", func := "tutor/tutorlaw01.WordParts", spec := "wordParts", apart := false, narrowed := true }
def WordPartsUptoSaid : Prop := wordPartsUptoRow.holds Try.pinned (OpenSpec.upto wordPartsSpec)

end Rows
end Go.Proofs.Ytahecgbjneaboaa
