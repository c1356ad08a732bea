/-
  No cell of these rows narrows 'for every input' (looked for: loops, veiled, ifaces, maps, wideKeys, modest, calm, conditions, laid).
  DERIVED. THE GIVEN ROWS OF THIS SEAT. 12 by the template 'for every input the law returns true; each argument reads behind the call as it read before'; 0 by the template 'total and deterministic' (their statements: YtlbomliaegmnpaaTotals.lean).
  GIVEN WITH THE SEED: the statements are not yours to turn. If you find one false, say at which input.
  Laid BY PROGRAM, IN A SANDBOX (cutbox-rows.mjs): the forced cells as the released guide's own fill.sh prints them over the translation e61a0d9a9d182b8e… (all of the seat's roots in one cut). By AI agents, Wed Nov 11 2026. No macro, syntax, notation, axiom, sorry.
-/
import Derived.Test.YtlbomliaegmnpaaChecked
import GoSem.Claim
import GoSem.ClaimJoined
import GoSem.ClaimMapViews
import Derived.JoinedTies
import Derived.KernelRfl
namespace Go.Proofs.Ytlbomliaegmnpaa
/- THE CELL 'sum', in the pinned program and in every row, IS THE sha256 OF THE DUMP (.gsa) THAT YtlbomliaegmnpaaProg.lean LOADS. Nothing in Lean hashes anything: it is a label: what it is worth is what the hold of that sum in a sandbox is worth. -/
noncomputable def Try.pinned : Pinned := { name := "ytlbomliaegmnpaa", sum := "e61a0d9a9d182b8e06c9e8389983e3e1191859b3e4bcb0a0fe9427d8491463cd", checked := Try.checked }
namespace Rows
def none {H : Type} : Left H := { results := [], args := [] }

/-- 'tutorlaw03.MachineChecks': WHATEVER THE INPUT: true; the input reads as it did. -/
def machineChecksSpec : ChangeSpec := { name := "machineChecks", fn := fun _ => fun
  | [d] => { results := [.lit (.bool true)], args := [d] }
  | _ => none }
def machineChecksRow : OpenClaim := { program := "ytlbomliaegmnpaa", sum := "e61a0d9a9d182b8e06c9e8389983e3e1191859b3e4bcb0a0fe9427d8491463cd", func := "tutor/tutorlaw03.MachineChecks", spec := "machineChecks", apart := false }
def MachineChecksSaid : Prop := machineChecksRow.holds Try.pinned (OpenSpec.ofChange machineChecksSpec)

/-- ITS FALSE NEIGHBOUR: 'it returns false'. Refute it at one input. -/
def machineChecksWrong : ChangeSpec := { name := "machineChecks", fn := fun _ => fun
  | [d] => { results := [.lit (.bool false)], args := [d] }
  | _ => none }
def MachineChecksWrongFalsely : Prop := machineChecksRow.holds Try.pinned (OpenSpec.ofChange machineChecksWrong)

/-- 'tutorlaw03.MachineFroms': WHATEVER THE INPUT: true; the input reads as it did. -/
def machineFromsSpec : ChangeSpec := { name := "machineFroms", fn := fun _ => fun
  | [d1, d2, d3] => { results := [.lit (.bool true)], args := [d1, d2, d3] }
  | _ => none }
def machineFromsRow : OpenClaim := { program := "ytlbomliaegmnpaa", sum := "e61a0d9a9d182b8e06c9e8389983e3e1191859b3e4bcb0a0fe9427d8491463cd", func := "tutor/tutorlaw03.MachineFroms", spec := "machineFroms", apart := false }
def MachineFromsSaid : Prop := machineFromsRow.holds Try.pinned (OpenSpec.ofChange machineFromsSpec)

/-- ITS FALSE NEIGHBOUR: 'it returns false'. Refute it at one input. -/
def machineFromsWrong : ChangeSpec := { name := "machineFroms", fn := fun _ => fun
  | [d1, d2, d3] => { results := [.lit (.bool false)], args := [d1, d2, d3] }
  | _ => none }
def MachineFromsWrongFalsely : Prop := machineFromsRow.holds Try.pinned (OpenSpec.ofChange machineFromsWrong)

/-- 'tutorlaw03.MachineSteps': WHATEVER THE INPUT: true; the input reads as it did. -/
def machineStepsSpec : ChangeSpec := { name := "machineSteps", fn := fun _ => fun
  | [d1, d2, d3] => { results := [.lit (.bool true)], args := [d1, d2, d3] }
  | _ => none }
def machineStepsRow : OpenClaim := { program := "ytlbomliaegmnpaa", sum := "e61a0d9a9d182b8e06c9e8389983e3e1191859b3e4bcb0a0fe9427d8491463cd", func := "tutor/tutorlaw03.MachineSteps", spec := "machineSteps", apart := false }
def MachineStepsSaid : Prop := machineStepsRow.holds Try.pinned (OpenSpec.ofChange machineStepsSpec)

/-- ITS FALSE NEIGHBOUR: 'it returns false'. Refute it at one input. -/
def machineStepsWrong : ChangeSpec := { name := "machineSteps", fn := fun _ => fun
  | [d1, d2, d3] => { results := [.lit (.bool false)], args := [d1, d2, d3] }
  | _ => none }
def MachineStepsWrongFalsely : Prop := machineStepsRow.holds Try.pinned (OpenSpec.ofChange machineStepsWrong)

/-- 'tutorlaw03.MachineOwn': WHATEVER THE INPUT: true; the input reads as it did. -/
def machineOwnSpec : ChangeSpec := { name := "machineOwn", fn := fun _ => fun
  | [d1, d2] => { results := [.lit (.bool true)], args := [d1, d2] }
  | _ => none }
def machineOwnRow : OpenClaim := { program := "ytlbomliaegmnpaa", sum := "e61a0d9a9d182b8e06c9e8389983e3e1191859b3e4bcb0a0fe9427d8491463cd", func := "tutor/tutorlaw03.MachineOwn", spec := "machineOwn", apart := false }
def MachineOwnSaid : Prop := machineOwnRow.holds Try.pinned (OpenSpec.ofChange machineOwnSpec)

/-- ITS FALSE NEIGHBOUR: 'it returns false'. Refute it at one input. -/
def machineOwnWrong : ChangeSpec := { name := "machineOwn", fn := fun _ => fun
  | [d1, d2] => { results := [.lit (.bool false)], args := [d1, d2] }
  | _ => none }
def MachineOwnWrongFalsely : Prop := machineOwnRow.holds Try.pinned (OpenSpec.ofChange machineOwnWrong)

/-- 'tutorlaw03.MachineRuns': WHATEVER THE INPUT: true; the input reads as it did. -/
def machineRunsSpec : ChangeSpec := { name := "machineRuns", fn := fun _ => fun
  | [d1, d2] => { results := [.lit (.bool true)], args := [d1, d2] }
  | _ => none }
def machineRunsRow : OpenClaim := { program := "ytlbomliaegmnpaa", sum := "e61a0d9a9d182b8e06c9e8389983e3e1191859b3e4bcb0a0fe9427d8491463cd", func := "tutor/tutorlaw03.MachineRuns", spec := "machineRuns", apart := false }
def MachineRunsSaid : Prop := machineRunsRow.holds Try.pinned (OpenSpec.ofChange machineRunsSpec)

/-- ITS FALSE NEIGHBOUR: 'it returns false'. Refute it at one input. -/
def machineRunsWrong : ChangeSpec := { name := "machineRuns", fn := fun _ => fun
  | [d1, d2] => { results := [.lit (.bool false)], args := [d1, d2] }
  | _ => none }
def MachineRunsWrongFalsely : Prop := machineRunsRow.holds Try.pinned (OpenSpec.ofChange machineRunsWrong)

/-- 'tutorlaw03.MachineJoins': WHATEVER THE INPUT: true; the input reads as it did. -/
def machineJoinsSpec : ChangeSpec := { name := "machineJoins", fn := fun _ => fun
  | [d1, d2, d3] => { results := [.lit (.bool true)], args := [d1, d2, d3] }
  | _ => none }
def machineJoinsRow : OpenClaim := { program := "ytlbomliaegmnpaa", sum := "e61a0d9a9d182b8e06c9e8389983e3e1191859b3e4bcb0a0fe9427d8491463cd", func := "tutor/tutorlaw03.MachineJoins", spec := "machineJoins", apart := false }
def MachineJoinsSaid : Prop := machineJoinsRow.holds Try.pinned (OpenSpec.ofChange machineJoinsSpec)

/-- ITS FALSE NEIGHBOUR: 'it returns false'. Refute it at one input. -/
def machineJoinsWrong : ChangeSpec := { name := "machineJoins", fn := fun _ => fun
  | [d1, d2, d3] => { results := [.lit (.bool false)], args := [d1, d2, d3] }
  | _ => none }
def MachineJoinsWrongFalsely : Prop := machineJoinsRow.holds Try.pinned (OpenSpec.ofChange machineJoinsWrong)

/-- 'tutorlaw12.PointPlays': WHATEVER THE INPUT: true; the input reads as it did. -/
def pointPlaysSpec : ChangeSpec := { name := "pointPlays", fn := fun _ => fun
  | [d1, d2, d3] => { results := [.lit (.bool true)], args := [d1, d2, d3] }
  | _ => none }
def pointPlaysRow : OpenClaim := { program := "ytlbomliaegmnpaa", sum := "e61a0d9a9d182b8e06c9e8389983e3e1191859b3e4bcb0a0fe9427d8491463cd", func := "tutor/tutorlaw12.PointPlays", spec := "pointPlays", unfollowed := true, recurses := true, apart := false }
def PointPlaysSaid : Prop := pointPlaysRow.holds Try.pinned (OpenSpec.ofChange pointPlaysSpec)

/-- ITS FALSE NEIGHBOUR: 'it returns false'. Refute it at one input. -/
def pointPlaysWrong : ChangeSpec := { name := "pointPlays", fn := fun _ => fun
  | [d1, d2, d3] => { results := [.lit (.bool false)], args := [d1, d2, d3] }
  | _ => none }
def PointPlaysWrongFalsely : Prop := pointPlaysRow.holds Try.pinned (OpenSpec.ofChange pointPlaysWrong)

/-- 'tutorlaw12.PointNils': WHATEVER THE INPUT: true; the input reads as it did. -/
def pointNilsSpec : ChangeSpec := { name := "pointNils", fn := fun _ => fun
  | [d] => { results := [.lit (.bool true)], args := [d] }
  | _ => none }
def pointNilsRow : OpenClaim := { program := "ytlbomliaegmnpaa", sum := "e61a0d9a9d182b8e06c9e8389983e3e1191859b3e4bcb0a0fe9427d8491463cd", func := "tutor/tutorlaw12.PointNils", spec := "pointNils", unfollowed := true, recurses := true, apart := false }
def PointNilsSaid : Prop := pointNilsRow.holds Try.pinned (OpenSpec.ofChange pointNilsSpec)

/-- ITS FALSE NEIGHBOUR: 'it returns false'. Refute it at one input. -/
def pointNilsWrong : ChangeSpec := { name := "pointNils", fn := fun _ => fun
  | [d] => { results := [.lit (.bool false)], args := [d] }
  | _ => none }
def PointNilsWrongFalsely : Prop := pointNilsRow.holds Try.pinned (OpenSpec.ofChange pointNilsWrong)

/-- 'tutorlaw12.PointFinds': WHATEVER THE INPUT: true; the input reads as it did. -/
def pointFindsSpec : ChangeSpec := { name := "pointFinds", fn := fun _ => fun
  | [d1, d2, d3] => { results := [.lit (.bool true)], args := [d1, d2, d3] }
  | _ => none }
def pointFindsRow : OpenClaim := { program := "ytlbomliaegmnpaa", sum := "e61a0d9a9d182b8e06c9e8389983e3e1191859b3e4bcb0a0fe9427d8491463cd", func := "tutor/tutorlaw12.PointFinds", spec := "pointFinds", unfollowed := true, recurses := true, apart := false }
def PointFindsSaid : Prop := pointFindsRow.holds Try.pinned (OpenSpec.ofChange pointFindsSpec)

/-- ITS FALSE NEIGHBOUR: 'it returns false'. Refute it at one input. -/
def pointFindsWrong : ChangeSpec := { name := "pointFinds", fn := fun _ => fun
  | [d1, d2, d3] => { results := [.lit (.bool false)], args := [d1, d2, d3] }
  | _ => none }
def PointFindsWrongFalsely : Prop := pointFindsRow.holds Try.pinned (OpenSpec.ofChange pointFindsWrong)

/-- 'tutorlaw12.PointSteps': WHATEVER THE INPUT: true; the input reads as it did. -/
def pointStepsSpec : ChangeSpec := { name := "pointSteps", fn := fun _ => fun
  | [d1, d2, d3] => { results := [.lit (.bool true)], args := [d1, d2, d3] }
  | _ => none }
def pointStepsRow : OpenClaim := { program := "ytlbomliaegmnpaa", sum := "e61a0d9a9d182b8e06c9e8389983e3e1191859b3e4bcb0a0fe9427d8491463cd", func := "tutor/tutorlaw12.PointSteps", spec := "pointSteps", unfollowed := true, recurses := true, apart := false }
def PointStepsSaid : Prop := pointStepsRow.holds Try.pinned (OpenSpec.ofChange pointStepsSpec)

/-- ITS FALSE NEIGHBOUR: 'it returns false'. Refute it at one input. -/
def pointStepsWrong : ChangeSpec := { name := "pointSteps", fn := fun _ => fun
  | [d1, d2, d3] => { results := [.lit (.bool false)], args := [d1, d2, d3] }
  | _ => none }
def PointStepsWrongFalsely : Prop := pointStepsRow.holds Try.pinned (OpenSpec.ofChange pointStepsWrong)

/-- 'tutorlaw12.PointWords': WHATEVER THE INPUT: true; the input reads as it did. -/
def pointWordsSpec : ChangeSpec := { name := "pointWords", fn := fun _ => fun
  | [d] => { results := [.lit (.bool true)], args := [d] }
  | _ => none }
def pointWordsRow : OpenClaim := { program := "ytlbomliaegmnpaa", sum := "e61a0d9a9d182b8e06c9e8389983e3e1191859b3e4bcb0a0fe9427d8491463cd", func := "tutor/tutorlaw12.PointWords", spec := "pointWords", unfollowed := true, recurses := true, apart := false }
def PointWordsSaid : Prop := pointWordsRow.holds Try.pinned (OpenSpec.ofChange pointWordsSpec)

/-- ITS FALSE NEIGHBOUR: 'it returns false'. Refute it at one input. -/
def pointWordsWrong : ChangeSpec := { name := "pointWords", fn := fun _ => fun
  | [d] => { results := [.lit (.bool false)], args := [d] }
  | _ => none }
def PointWordsWrongFalsely : Prop := pointWordsRow.holds Try.pinned (OpenSpec.ofChange pointWordsWrong)

/-- 'tutorlaw21.WalkDraws': WHATEVER THE INPUT: true; the input reads as it did. -/
def walkDrawsSpec : ChangeSpec := { name := "walkDraws", fn := fun _ => fun
  | [d1, d2] => { results := [.lit (.bool true)], args := [d1, d2] }
  | _ => none }
def walkDrawsRow : OpenClaim := { program := "ytlbomliaegmnpaa", sum := "e61a0d9a9d182b8e06c9e8389983e3e1191859b3e4bcb0a0fe9427d8491463cd", func := "tutor/tutorlaw21.WalkDraws", spec := "walkDraws", apart := false }
def WalkDrawsSaid : Prop := walkDrawsRow.holds Try.pinned (OpenSpec.ofChange walkDrawsSpec)

/-- ITS FALSE NEIGHBOUR: 'it returns false'. Refute it at one input. -/
def walkDrawsWrong : ChangeSpec := { name := "walkDraws", fn := fun _ => fun
  | [d1, d2] => { results := [.lit (.bool false)], args := [d1, d2] }
  | _ => none }
def WalkDrawsWrongFalsely : Prop := walkDrawsRow.holds Try.pinned (OpenSpec.ofChange walkDrawsWrong)

/- THE SECOND FORM. 'bulk': how many values and letters a reading holds, each counted each time it is reached (what is shared counts as often as it is met; a slice's spare places count too). A statement '..UptoSaid' is the law's where the arguments, and the package variables that the reading takes, are together of bulk at most 1048576: NARROWER than '..Said'. Prove '..Said' where nothing that the law and all that it calls make is longer than what came in: it says more and counts as full. Else prove '..UptoSaid'. A law counts once. -/
mutual
def uptoBulk {H : Type} : DataW H → Nat
  | .lit (.string bytes) => bytes.length + 1
  | .lit _ => 1
  | .nil => 1
  | .ptr d => uptoBulk d + 1
  | .slice elems spare => uptoBulkAll elems + uptoBulkAll spare + 1
  | .agg parts => uptoBulkAll parts + 1
  | .iface _ d => uptoBulk d + 1
  | .map entries => uptoBulkEntries entries + 1
  | .held _ => 1
def uptoBulkAll {H : Type} : List (DataW H) → Nat
  | [] => 0
  | d :: r => uptoBulk d + uptoBulkAll r
def uptoBulkEntries {H : Type} : List (Lit × DataW H) → Nat
  | [] => 0
  | x :: r => uptoBulkEntry x + uptoBulkEntries r
def uptoBulkEntry {H : Type} : Lit × DataW H → Nat
  | (.string bytes, d) => bytes.length + uptoBulk d + 1
  | (_, d) => uptoBulk d + 1
 end
def uptoSmall : (H : Type) → List (DataW H) → Bool := fun _ ds => decide (uptoBulkAll ds ≤ 1048576)
def OpenSpec.upto (s : _root_.Go.ChangeSpec) : _root_.Go.OpenSpec := { _root_.Go.OpenSpec.ofChange s with cond := some uptoSmall }

/-- 'tutorlaw03.MachineChecks', WHERE WHAT IT READS IS OF BULK AT MOST 1048576: true; the input reads as it did. -/
def machineChecksUptoRow : OpenClaim := { program := "ytlbomliaegmnpaa", sum := "e61a0d9a9d182b8e06c9e8389983e3e1191859b3e4bcb0a0fe9427d8491463cd", func := "tutor/tutorlaw03.MachineChecks", spec := "machineChecks", apart := false, narrowed := true }
def MachineChecksUptoSaid : Prop := machineChecksUptoRow.holds Try.pinned (OpenSpec.upto machineChecksSpec)

/-- 'tutorlaw03.MachineFroms', WHERE WHAT IT READS IS OF BULK AT MOST 1048576: true; the input reads as it did. -/
def machineFromsUptoRow : OpenClaim := { program := "ytlbomliaegmnpaa", sum := "e61a0d9a9d182b8e06c9e8389983e3e1191859b3e4bcb0a0fe9427d8491463cd", func := "tutor/tutorlaw03.MachineFroms", spec := "machineFroms", apart := false, narrowed := true }
def MachineFromsUptoSaid : Prop := machineFromsUptoRow.holds Try.pinned (OpenSpec.upto machineFromsSpec)

/-- 'tutorlaw03.MachineSteps', WHERE WHAT IT READS IS OF BULK AT MOST 1048576: true; the input reads as it did. -/
def machineStepsUptoRow : OpenClaim := { program := "ytlbomliaegmnpaa", sum := "e61a0d9a9d182b8e06c9e8389983e3e1191859b3e4bcb0a0fe9427d8491463cd", func := "tutor/tutorlaw03.MachineSteps", spec := "machineSteps", apart := false, narrowed := true }
def MachineStepsUptoSaid : Prop := machineStepsUptoRow.holds Try.pinned (OpenSpec.upto machineStepsSpec)

/-- 'tutorlaw03.MachineOwn', WHERE WHAT IT READS IS OF BULK AT MOST 1048576: true; the input reads as it did. -/
def machineOwnUptoRow : OpenClaim := { program := "ytlbomliaegmnpaa", sum := "e61a0d9a9d182b8e06c9e8389983e3e1191859b3e4bcb0a0fe9427d8491463cd", func := "tutor/tutorlaw03.MachineOwn", spec := "machineOwn", apart := false, narrowed := true }
def MachineOwnUptoSaid : Prop := machineOwnUptoRow.holds Try.pinned (OpenSpec.upto machineOwnSpec)

/-- 'tutorlaw03.MachineRuns', WHERE WHAT IT READS IS OF BULK AT MOST 1048576: true; the input reads as it did. -/
def machineRunsUptoRow : OpenClaim := { program := "ytlbomliaegmnpaa", sum := "e61a0d9a9d182b8e06c9e8389983e3e1191859b3e4bcb0a0fe9427d8491463cd", func := "tutor/tutorlaw03.MachineRuns", spec := "machineRuns", apart := false, narrowed := true }
def MachineRunsUptoSaid : Prop := machineRunsUptoRow.holds Try.pinned (OpenSpec.upto machineRunsSpec)

/-- 'tutorlaw03.MachineJoins', WHERE WHAT IT READS IS OF BULK AT MOST 1048576: true; the input reads as it did. -/
def machineJoinsUptoRow : OpenClaim := { program := "ytlbomliaegmnpaa", sum := "e61a0d9a9d182b8e06c9e8389983e3e1191859b3e4bcb0a0fe9427d8491463cd", func := "tutor/tutorlaw03.MachineJoins", spec := "machineJoins", apart := false, narrowed := true }
def MachineJoinsUptoSaid : Prop := machineJoinsUptoRow.holds Try.pinned (OpenSpec.upto machineJoinsSpec)

/-- 'tutorlaw12.PointPlays', WHERE WHAT IT READS IS OF BULK AT MOST 1048576: true; the input reads as it did. -/
def pointPlaysUptoRow : OpenClaim := { program := "ytlbomliaegmnpaa", sum := "e61a0d9a9d182b8e06c9e8389983e3e1191859b3e4bcb0a0fe9427d8491463cd", func := "tutor/tutorlaw12.PointPlays", spec := "pointPlays", unfollowed := true, recurses := true, apart := false, narrowed := true }
def PointPlaysUptoSaid : Prop := pointPlaysUptoRow.holds Try.pinned (OpenSpec.upto pointPlaysSpec)

/-- 'tutorlaw12.PointNils', WHERE WHAT IT READS IS OF BULK AT MOST 1048576: true; the input reads as it did. -/
def pointNilsUptoRow : OpenClaim := { program := "ytlbomliaegmnpaa", sum := "e61a0d9a9d182b8e06c9e8389983e3e1191859b3e4bcb0a0fe9427d8491463cd", func := "tutor/tutorlaw12.PointNils", spec := "pointNils", unfollowed := true, recurses := true, apart := false, narrowed := true }
def PointNilsUptoSaid : Prop := pointNilsUptoRow.holds Try.pinned (OpenSpec.upto pointNilsSpec)

/-- 'tutorlaw12.PointFinds', WHERE WHAT IT READS IS OF BULK AT MOST 1048576: true; the input reads as it did. -/
def pointFindsUptoRow : OpenClaim := { program := "ytlbomliaegmnpaa", sum := "e61a0d9a9d182b8e06c9e8389983e3e1191859b3e4bcb0a0fe9427d8491463cd", func := "tutor/tutorlaw12.PointFinds", spec := "pointFinds", unfollowed := true, recurses := true, apart := false, narrowed := true }
def PointFindsUptoSaid : Prop := pointFindsUptoRow.holds Try.pinned (OpenSpec.upto pointFindsSpec)

/-- 'tutorlaw12.PointSteps', WHERE WHAT IT READS IS OF BULK AT MOST 1048576: true; the input reads as it did. -/
def pointStepsUptoRow : OpenClaim := { program := "ytlbomliaegmnpaa", sum := "e61a0d9a9d182b8e06c9e8389983e3e1191859b3e4bcb0a0fe9427d8491463cd", func := "tutor/tutorlaw12.PointSteps", spec := "pointSteps", unfollowed := true, recurses := true, apart := false, narrowed := true }
def PointStepsUptoSaid : Prop := pointStepsUptoRow.holds Try.pinned (OpenSpec.upto pointStepsSpec)

/-- 'tutorlaw12.PointWords', WHERE WHAT IT READS IS OF BULK AT MOST 1048576: true; the input reads as it did. -/
def pointWordsUptoRow : OpenClaim := { program := "ytlbomliaegmnpaa", sum := "e61a0d9a9d182b8e06c9e8389983e3e1191859b3e4bcb0a0fe9427d8491463cd", func := "tutor/tutorlaw12.PointWords", spec := "pointWords", unfollowed := true, recurses := true, apart := false, narrowed := true }
def PointWordsUptoSaid : Prop := pointWordsUptoRow.holds Try.pinned (OpenSpec.upto pointWordsSpec)

/-- 'tutorlaw21.WalkDraws', WHERE WHAT IT READS IS OF BULK AT MOST 1048576: true; the input reads as it did. -/
def walkDrawsUptoRow : OpenClaim := { program := "ytlbomliaegmnpaa", sum := "e61a0d9a9d182b8e06c9e8389983e3e1191859b3e4bcb0a0fe9427d8491463cd", func := "tutor/tutorlaw21.WalkDraws", spec := "walkDraws", apart := false, narrowed := true }
def WalkDrawsUptoSaid : Prop := walkDrawsUptoRow.holds Try.pinned (OpenSpec.upto walkDrawsSpec)

end Rows
end Go.Proofs.Ytlbomliaegmnpaa
