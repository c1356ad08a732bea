/-
  No cell of these rows narrows 'for every input' (looked for: loops, veiled, ifaces, maps, wideKeys, modest, calm, conditions, laid).
  DERIVED. THE GIVEN ROWS OF THIS SEAT. 5 by the template 'for every input the law returns true; each argument reads behind the call as it read before'; 0 by the template 'total and deterministic' (their statements: YtfbdgjepflokpaaTotals.lean).
  GIVEN WITH THE SEED: the statements are not yours to turn. If you find one false, say at which input.
  Laid BY PROGRAM, IN A SANDBOX (cutbox-rows.mjs): the forced cells as the released guide's own fill.sh prints them over the translation 459cb29cdba34254… (all of the seat's roots in one cut). By AI agents, Wed Nov 11 2026. No macro, syntax, notation, axiom, sorry.
-/
import Derived.Test.YtfbdgjepflokpaaChecked
import GoSem.Claim
import GoSem.ClaimJoined
import GoSem.ClaimMapViews
import Derived.JoinedTies
import Derived.KernelRfl
namespace Go.Proofs.Ytfbdgjepflokpaa
/- THE CELL 'sum', in the pinned program and in every row, IS THE sha256 OF THE DUMP (.gsa) THAT YtfbdgjepflokpaaProg.lean LOADS. Nothing in Lean hashes anything: it is a label: what it is worth is what the hold of that sum in a sandbox is worth. -/
noncomputable def Try.pinned : Pinned := { name := "ytfbdgjepflokpaa", sum := "459cb29cdba3425483f006d8e904e3704b367897670e7036e845e895440c72fc", checked := Try.checked }
namespace Rows
def none {H : Type} : Left H := { results := [], args := [] }

/-- 'tutorlaw07.DifferSeparates': WHATEVER THE INPUT: true; the input reads as it did. -/
def differSeparatesSpec : ChangeSpec := { name := "differSeparates", fn := fun _ => fun
  | [d1, d2] => { results := [.lit (.bool true)], args := [d1, d2] }
  | _ => none }
def differSeparatesRow : OpenClaim := { program := "ytfbdgjepflokpaa", sum := "459cb29cdba3425483f006d8e904e3704b367897670e7036e845e895440c72fc", func := "tutor/tutorlaw07.DifferSeparates", spec := "differSeparates", plainKeys := false, apart := false }
def DifferSeparatesSaid : Prop := differSeparatesRow.holds Try.pinned (OpenSpec.ofChange differSeparatesSpec)

/-- ITS FALSE NEIGHBOUR: 'it returns false'. Refute it at one input. -/
def differSeparatesWrong : ChangeSpec := { name := "differSeparates", fn := fun _ => fun
  | [d1, d2] => { results := [.lit (.bool false)], args := [d1, d2] }
  | _ => none }
def DifferSeparatesWrongFalsely : Prop := differSeparatesRow.holds Try.pinned (OpenSpec.ofChange differSeparatesWrong)

/-- 'tutorlaw07.DifferStates': WHATEVER THE INPUT: true; the input reads as it did. -/
def differStatesSpec : ChangeSpec := { name := "differStates", fn := fun _ => fun
  | [d1, d2, d3] => { results := [.lit (.bool true)], args := [d1, d2, d3] }
  | _ => none }
def differStatesRow : OpenClaim := { program := "ytfbdgjepflokpaa", sum := "459cb29cdba3425483f006d8e904e3704b367897670e7036e845e895440c72fc", func := "tutor/tutorlaw07.DifferStates", spec := "differStates", plainKeys := false, apart := false }
def DifferStatesSaid : Prop := differStatesRow.holds Try.pinned (OpenSpec.ofChange differStatesSpec)

/-- ITS FALSE NEIGHBOUR: 'it returns false'. Refute it at one input. -/
def differStatesWrong : ChangeSpec := { name := "differStates", fn := fun _ => fun
  | [d1, d2, d3] => { results := [.lit (.bool false)], args := [d1, d2, d3] }
  | _ => none }
def DifferStatesWrongFalsely : Prop := differStatesRow.holds Try.pinned (OpenSpec.ofChange differStatesWrong)

/-- 'tutorlaw07.DifferFirst': WHATEVER THE INPUT: true; the input reads as it did. -/
def differFirstSpec : ChangeSpec := { name := "differFirst", fn := fun _ => fun
  | [d1, d2, d3] => { results := [.lit (.bool true)], args := [d1, d2, d3] }
  | _ => none }
def differFirstRow : OpenClaim := { program := "ytfbdgjepflokpaa", sum := "459cb29cdba3425483f006d8e904e3704b367897670e7036e845e895440c72fc", func := "tutor/tutorlaw07.DifferFirst", spec := "differFirst", plainKeys := false, apart := false }
def DifferFirstSaid : Prop := differFirstRow.holds Try.pinned (OpenSpec.ofChange differFirstSpec)

/-- ITS FALSE NEIGHBOUR: 'it returns false'. Refute it at one input. -/
def differFirstWrong : ChangeSpec := { name := "differFirst", fn := fun _ => fun
  | [d1, d2, d3] => { results := [.lit (.bool false)], args := [d1, d2, d3] }
  | _ => none }
def DifferFirstWrongFalsely : Prop := differFirstRow.holds Try.pinned (OpenSpec.ofChange differFirstWrong)

/-- 'tutorlaw07.DifferEqual': WHATEVER THE INPUT: true; the input reads as it did. -/
def differEqualSpec : ChangeSpec := { name := "differEqual", fn := fun _ => fun
  | [d1, d2, d3, d4] => { results := [.lit (.bool true)], args := [d1, d2, d3, d4] }
  | _ => none }
def differEqualRow : OpenClaim := { program := "ytfbdgjepflokpaa", sum := "459cb29cdba3425483f006d8e904e3704b367897670e7036e845e895440c72fc", func := "tutor/tutorlaw07.DifferEqual", spec := "differEqual", plainKeys := false, apart := false }
def DifferEqualSaid : Prop := differEqualRow.holds Try.pinned (OpenSpec.ofChange differEqualSpec)

/-- ITS FALSE NEIGHBOUR: 'it returns false'. Refute it at one input. -/
def differEqualWrong : ChangeSpec := { name := "differEqual", fn := fun _ => fun
  | [d1, d2, d3, d4] => { results := [.lit (.bool false)], args := [d1, d2, d3, d4] }
  | _ => none }
def DifferEqualWrongFalsely : Prop := differEqualRow.holds Try.pinned (OpenSpec.ofChange differEqualWrong)

/-- 'tutorlaw07.DifferPairs': WHATEVER THE INPUT: true; the input reads as it did. -/
def differPairsSpec : ChangeSpec := { name := "differPairs", fn := fun _ => fun
  | [d] => { results := [.lit (.bool true)], args := [d] }
  | _ => none }
def differPairsRow : OpenClaim := { program := "ytfbdgjepflokpaa", sum := "459cb29cdba3425483f006d8e904e3704b367897670e7036e845e895440c72fc", func := "tutor/tutorlaw07.DifferPairs", spec := "differPairs", unfollowed := true, recurses := true, plainKeys := false, apart := false }
def DifferPairsSaid : Prop := differPairsRow.holds Try.pinned (OpenSpec.ofChange differPairsSpec)

/-- ITS FALSE NEIGHBOUR: 'it returns false'. Refute it at one input. -/
def differPairsWrong : ChangeSpec := { name := "differPairs", fn := fun _ => fun
  | [d] => { results := [.lit (.bool false)], args := [d] }
  | _ => none }
def DifferPairsWrongFalsely : Prop := differPairsRow.holds Try.pinned (OpenSpec.ofChange differPairsWrong)

/- THE SECOND FORM. 'bulk': how many values and letters a reading holds, each counted each time it is reached (what is shared counts as often as it is met; a slice's spare places count too). A statement '..UptoSaid' is the law's where the arguments, and the package variables that the reading takes, are together of bulk at most 1048576: NARROWER than '..Said'. Prove '..Said' where nothing that the law and all that it calls make is longer than what came in: it says more and counts as full. Else prove '..UptoSaid'. A law counts once. -/
mutual
def uptoBulk {H : Type} : DataW H → Nat
  | .lit (.string bytes) => bytes.length + 1
  | .lit _ => 1
  | .nil => 1
  | .ptr d => uptoBulk d + 1
  | .slice elems spare => uptoBulkAll elems + uptoBulkAll spare + 1
  | .agg parts => uptoBulkAll parts + 1
  | .iface _ d => uptoBulk d + 1
  | .map entries => uptoBulkEntries entries + 1
  | .held _ => 1
def uptoBulkAll {H : Type} : List (DataW H) → Nat
  | [] => 0
  | d :: r => uptoBulk d + uptoBulkAll r
def uptoBulkEntries {H : Type} : List (Lit × DataW H) → Nat
  | [] => 0
  | x :: r => uptoBulkEntry x + uptoBulkEntries r
def uptoBulkEntry {H : Type} : Lit × DataW H → Nat
  | (.string bytes, d) => bytes.length + uptoBulk d + 1
  | (_, d) => uptoBulk d + 1
 end
def uptoSmall : (H : Type) → List (DataW H) → Bool := fun _ ds => decide (uptoBulkAll ds ≤ 1048576)
def OpenSpec.upto (s : _root_.Go.ChangeSpec) : _root_.Go.OpenSpec := { _root_.Go.OpenSpec.ofChange s with cond := some uptoSmall }

/-- 'tutorlaw07.DifferSeparates', WHERE WHAT IT READS IS OF BULK AT MOST 1048576: true; the input reads as it did. -/
def differSeparatesUptoRow : OpenClaim := { program := "ytfbdgjepflokpaa", sum := "459cb29cdba3425483f006d8e904e3704b367897670e7036e845e895440c72fc", func := "tutor/tutorlaw07.DifferSeparates", spec := "differSeparates", plainKeys := false, apart := false, narrowed := true }
def DifferSeparatesUptoSaid : Prop := differSeparatesUptoRow.holds Try.pinned (OpenSpec.upto differSeparatesSpec)

/-- 'tutorlaw07.DifferStates', WHERE WHAT IT READS IS OF BULK AT MOST 1048576: true; the input reads as it did. -/
def differStatesUptoRow : OpenClaim := { program := "ytfbdgjepflokpaa", sum := "459cb29cdba3425483f006d8e904e3704b367897670e7036e845e895440c72fc", func := "tutor/tutorlaw07.DifferStates", spec := "differStates", plainKeys := false, apart := false, narrowed := true }
def DifferStatesUptoSaid : Prop := differStatesUptoRow.holds Try.pinned (OpenSpec.upto differStatesSpec)

/-- 'tutorlaw07.DifferFirst', WHERE WHAT IT READS IS OF BULK AT MOST 1048576: true; the input reads as it did. -/
def differFirstUptoRow : OpenClaim := { program := "ytfbdgjepflokpaa", sum := "459cb29cdba3425483f006d8e904e3704b367897670e7036e845e895440c72fc", func := "tutor/tutorlaw07.DifferFirst", spec := "differFirst", plainKeys := false, apart := false, narrowed := true }
def DifferFirstUptoSaid : Prop := differFirstUptoRow.holds Try.pinned (OpenSpec.upto differFirstSpec)

/-- 'tutorlaw07.DifferEqual', WHERE WHAT IT READS IS OF BULK AT MOST 1048576: true; the input reads as it did. -/
def differEqualUptoRow : OpenClaim := { program := "ytfbdgjepflokpaa", sum := "459cb29cdba3425483f006d8e904e3704b367897670e7036e845e895440c72fc", func := "tutor/tutorlaw07.DifferEqual", spec := "differEqual", plainKeys := false, apart := false, narrowed := true }
def DifferEqualUptoSaid : Prop := differEqualUptoRow.holds Try.pinned (OpenSpec.upto differEqualSpec)

/-- 'tutorlaw07.DifferPairs', WHERE WHAT IT READS IS OF BULK AT MOST 1048576: true; the input reads as it did. -/
def differPairsUptoRow : OpenClaim := { program := "ytfbdgjepflokpaa", sum := "459cb29cdba3425483f006d8e904e3704b367897670e7036e845e895440c72fc", func := "tutor/tutorlaw07.DifferPairs", spec := "differPairs", unfollowed := true, recurses := true, plainKeys := false, apart := false, narrowed := true }
def DifferPairsUptoSaid : Prop := differPairsUptoRow.holds Try.pinned (OpenSpec.upto differPairsSpec)

end Rows
end Go.Proofs.Ytfbdgjepflokpaa
