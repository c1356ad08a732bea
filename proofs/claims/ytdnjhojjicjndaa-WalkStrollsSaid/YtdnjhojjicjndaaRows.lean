/-
  No cell of these rows narrows 'for every input' (looked for: loops, veiled, ifaces, maps, wideKeys, modest, calm, conditions, laid).
  DERIVED. THE GIVEN ROWS OF THIS SEAT. 6 by the template 'for every input the law returns true; each argument reads behind the call as it read before'; 0 by the template 'total and deterministic' (their statements: YtdnjhojjicjndaaTotals.lean).
  GIVEN WITH THE SEED: the statements are not yours to turn. If you find one false, say at which input.
  Laid BY PROGRAM, IN A SANDBOX (cutbox-rows.mjs): the forced cells as the released guide's own fill.sh prints them over the translation b2e521cbd4c28dae… (all of the seat's roots in one cut). By AI agents, Wed Nov 11 2026. No macro, syntax, notation, axiom, sorry.
-/
import Derived.Test.YtdnjhojjicjndaaChecked
import GoSem.Claim
import GoSem.ClaimJoined
import GoSem.ClaimMapViews
import Derived.JoinedTies
import Derived.KernelRfl
namespace Go.Proofs.Ytdnjhojjicjndaa
/- THE CELL 'sum', in the pinned program and in every row, IS THE sha256 OF THE DUMP (.gsa) THAT YtdnjhojjicjndaaProg.lean LOADS. Nothing in Lean hashes anything: it is a label: what it is worth is what the hold of that sum in a sandbox is worth. -/
noncomputable def Try.pinned : Pinned := { name := "ytdnjhojjicjndaa", sum := "b2e521cbd4c28dae67b007249ec229d7ff32829a60a5c8ff015204dcf0a30ddc", checked := Try.checked }
namespace Rows
def none {H : Type} : Left H := { results := [], args := [] }

/-- 'tutorlaw21.WalkDraws': WHATEVER THE INPUT: true; the input reads as it did. -/
def walkDrawsSpec : ChangeSpec := { name := "walkDraws", fn := fun _ => fun
  | [d1, d2] => { results := [.lit (.bool true)], args := [d1, d2] }
  | _ => none }
def walkDrawsRow : OpenClaim := { program := "ytdnjhojjicjndaa", sum := "b2e521cbd4c28dae67b007249ec229d7ff32829a60a5c8ff015204dcf0a30ddc", func := "tutor/tutorlaw21.WalkDraws", spec := "walkDraws", plainKeys := false, apart := false }
def WalkDrawsSaid : Prop := walkDrawsRow.holds Try.pinned (OpenSpec.ofChange walkDrawsSpec)

/-- ITS FALSE NEIGHBOUR: 'it returns false'. Refute it at one input. -/
def walkDrawsWrong : ChangeSpec := { name := "walkDraws", fn := fun _ => fun
  | [d1, d2] => { results := [.lit (.bool false)], args := [d1, d2] }
  | _ => none }
def WalkDrawsWrongFalsely : Prop := walkDrawsRow.holds Try.pinned (OpenSpec.ofChange walkDrawsWrong)

/-- 'tutorlaw21.WalkWords': WHATEVER THE INPUT: true; the input reads as it did. -/
def walkWordsSpec : ChangeSpec := { name := "walkWords", fn := fun _ => fun
  | [d1, d2, d3, d4, d5] => { results := [.lit (.bool true)], args := [d1, d2, d3, d4, d5] }
  | _ => none }
def walkWordsRow : OpenClaim := { program := "ytdnjhojjicjndaa", sum := "b2e521cbd4c28dae67b007249ec229d7ff32829a60a5c8ff015204dcf0a30ddc", func := "tutor/tutorlaw21.WalkWords", spec := "walkWords", unfollowed := true, recurses := true, plainKeys := false, apart := false }
def WalkWordsSaid : Prop := walkWordsRow.holds Try.pinned (OpenSpec.ofChange walkWordsSpec)

/-- ITS FALSE NEIGHBOUR: 'it returns false'. Refute it at one input. -/
def walkWordsWrong : ChangeSpec := { name := "walkWords", fn := fun _ => fun
  | [d1, d2, d3, d4, d5] => { results := [.lit (.bool false)], args := [d1, d2, d3, d4, d5] }
  | _ => none }
def WalkWordsWrongFalsely : Prop := walkWordsRow.holds Try.pinned (OpenSpec.ofChange walkWordsWrong)

/-- 'tutorlaw21.WalkStrolls': WHATEVER THE INPUT: true; the input reads as it did. -/
def walkStrollsSpec : ChangeSpec := { name := "walkStrolls", fn := fun _ => fun
  | [d1, d2, d3, d4] => { results := [.lit (.bool true)], args := [d1, d2, d3, d4] }
  | _ => none }
def walkStrollsRow : OpenClaim := { program := "ytdnjhojjicjndaa", sum := "b2e521cbd4c28dae67b007249ec229d7ff32829a60a5c8ff015204dcf0a30ddc", func := "tutor/tutorlaw21.WalkStrolls", spec := "walkStrolls", plainKeys := false, apart := false }
def WalkStrollsSaid : Prop := walkStrollsRow.holds Try.pinned (OpenSpec.ofChange walkStrollsSpec)

/-- ITS FALSE NEIGHBOUR: 'it returns false'. Refute it at one input. -/
def walkStrollsWrong : ChangeSpec := { name := "walkStrolls", fn := fun _ => fun
  | [d1, d2, d3, d4] => { results := [.lit (.bool false)], args := [d1, d2, d3, d4] }
  | _ => none }
def WalkStrollsWrongFalsely : Prop := walkStrollsRow.holds Try.pinned (OpenSpec.ofChange walkStrollsWrong)

/-- 'tutorlaw21.WalkTrue': WHATEVER THE INPUT: true; the input reads as it did. -/
def walkTrueSpec : ChangeSpec := { name := "walkTrue", fn := fun _ => fun
  | [d1, d2, d3, d4, d5] => { results := [.lit (.bool true)], args := [d1, d2, d3, d4, d5] }
  | _ => none }
def walkTrueRow : OpenClaim := { program := "ytdnjhojjicjndaa", sum := "b2e521cbd4c28dae67b007249ec229d7ff32829a60a5c8ff015204dcf0a30ddc", func := "tutor/tutorlaw21.WalkTrue", spec := "walkTrue", plainKeys := false, apart := false }
def WalkTrueSaid : Prop := walkTrueRow.holds Try.pinned (OpenSpec.ofChange walkTrueSpec)

/-- ITS FALSE NEIGHBOUR: 'it returns false'. Refute it at one input. -/
def walkTrueWrong : ChangeSpec := { name := "walkTrue", fn := fun _ => fun
  | [d1, d2, d3, d4, d5] => { results := [.lit (.bool false)], args := [d1, d2, d3, d4, d5] }
  | _ => none }
def WalkTrueWrongFalsely : Prop := walkTrueRow.holds Try.pinned (OpenSpec.ofChange walkTrueWrong)

/-- 'tutorlaw21.WalkHunts': WHATEVER THE INPUT: true; the input reads as it did. -/
def walkHuntsSpec : ChangeSpec := { name := "walkHunts", fn := fun _ => fun
  | [d1, d2, d3, d4, d5, d6] => { results := [.lit (.bool true)], args := [d1, d2, d3, d4, d5, d6] }
  | _ => none }
def walkHuntsRow : OpenClaim := { program := "ytdnjhojjicjndaa", sum := "b2e521cbd4c28dae67b007249ec229d7ff32829a60a5c8ff015204dcf0a30ddc", func := "tutor/tutorlaw21.WalkHunts", spec := "walkHunts", unfollowed := true, recurses := true, plainKeys := false, apart := false }
def WalkHuntsSaid : Prop := walkHuntsRow.holds Try.pinned (OpenSpec.ofChange walkHuntsSpec)

/-- ITS FALSE NEIGHBOUR: 'it returns false'. Refute it at one input. -/
def walkHuntsWrong : ChangeSpec := { name := "walkHunts", fn := fun _ => fun
  | [d1, d2, d3, d4, d5, d6] => { results := [.lit (.bool false)], args := [d1, d2, d3, d4, d5, d6] }
  | _ => none }
def WalkHuntsWrongFalsely : Prop := walkHuntsRow.holds Try.pinned (OpenSpec.ofChange walkHuntsWrong)

/-- 'tutorlaw21.WalkApart': WHATEVER THE INPUT: true; the input reads as it did. -/
def walkApartSpec : ChangeSpec := { name := "walkApart", fn := fun _ => fun
  | [d1, d2, d3, d4, d5] => { results := [.lit (.bool true)], args := [d1, d2, d3, d4, d5] }
  | _ => none }
def walkApartRow : OpenClaim := { program := "ytdnjhojjicjndaa", sum := "b2e521cbd4c28dae67b007249ec229d7ff32829a60a5c8ff015204dcf0a30ddc", func := "tutor/tutorlaw21.WalkApart", spec := "walkApart", unfollowed := true, recurses := true, plainKeys := false, apart := false }
def WalkApartSaid : Prop := walkApartRow.holds Try.pinned (OpenSpec.ofChange walkApartSpec)

/-- ITS FALSE NEIGHBOUR: 'it returns false'. Refute it at one input. -/
def walkApartWrong : ChangeSpec := { name := "walkApart", fn := fun _ => fun
  | [d1, d2, d3, d4, d5] => { results := [.lit (.bool false)], args := [d1, d2, d3, d4, d5] }
  | _ => none }
def WalkApartWrongFalsely : Prop := walkApartRow.holds Try.pinned (OpenSpec.ofChange walkApartWrong)

/- THE SECOND FORM. 'bulk': how many values and letters a reading holds, each counted each time it is reached (what is shared counts as often as it is met; a slice's spare places count too). A statement '..UptoSaid' is the law's where the arguments, and the package variables that the reading takes, are together of bulk at most 1048576: NARROWER than '..Said'. Prove '..Said' where nothing that the law and all that it calls make is longer than what came in: it says more and counts as full. Else prove '..UptoSaid'. A law counts once. -/
mutual
def uptoBulk {H : Type} : DataW H → Nat
  | .lit (.string bytes) => bytes.length + 1
  | .lit _ => 1
  | .nil => 1
  | .ptr d => uptoBulk d + 1
  | .slice elems spare => uptoBulkAll elems + uptoBulkAll spare + 1
  | .agg parts => uptoBulkAll parts + 1
  | .iface _ d => uptoBulk d + 1
  | .map entries => uptoBulkEntries entries + 1
  | .held _ => 1
def uptoBulkAll {H : Type} : List (DataW H) → Nat
  | [] => 0
  | d :: r => uptoBulk d + uptoBulkAll r
def uptoBulkEntries {H : Type} : List (Lit × DataW H) → Nat
  | [] => 0
  | x :: r => uptoBulkEntry x + uptoBulkEntries r
def uptoBulkEntry {H : Type} : Lit × DataW H → Nat
  | (.string bytes, d) => bytes.length + uptoBulk d + 1
  | (_, d) => uptoBulk d + 1
 end
def uptoSmall : (H : Type) → List (DataW H) → Bool := fun _ ds => decide (uptoBulkAll ds ≤ 1048576)
def OpenSpec.upto (s : _root_.Go.ChangeSpec) : _root_.Go.OpenSpec := { _root_.Go.OpenSpec.ofChange s with cond := some uptoSmall }

/-- 'tutorlaw21.WalkDraws', WHERE WHAT IT READS IS OF BULK AT MOST 1048576: true; the input reads as it did. -/
def walkDrawsUptoRow : OpenClaim := { program := "ytdnjhojjicjndaa", sum := "b2e521cbd4c28dae67b007249ec229d7ff32829a60a5c8ff015204dcf0a30ddc", func := "tutor/tutorlaw21.WalkDraws", spec := "walkDraws", plainKeys := false, apart := false, narrowed := true }
def WalkDrawsUptoSaid : Prop := walkDrawsUptoRow.holds Try.pinned (OpenSpec.upto walkDrawsSpec)

/-- 'tutorlaw21.WalkWords', WHERE WHAT IT READS IS OF BULK AT MOST 1048576: true; the input reads as it did. -/
def walkWordsUptoRow : OpenClaim := { program := "ytdnjhojjicjndaa", sum := "b2e521cbd4c28dae67b007249ec229d7ff32829a60a5c8ff015204dcf0a30ddc", func := "tutor/tutorlaw21.WalkWords", spec := "walkWords", unfollowed := true, recurses := true, plainKeys := false, apart := false, narrowed := true }
def WalkWordsUptoSaid : Prop := walkWordsUptoRow.holds Try.pinned (OpenSpec.upto walkWordsSpec)

/-- 'tutorlaw21.WalkStrolls', WHERE WHAT IT READS IS OF BULK AT MOST 1048576: true; the input reads as it did. -/
def walkStrollsUptoRow : OpenClaim := { program := "ytdnjhojjicjndaa", sum := "b2e521cbd4c28dae67b007249ec229d7ff32829a60a5c8ff015204dcf0a30ddc", func := "tutor/tutorlaw21.WalkStrolls", spec := "walkStrolls", plainKeys := false, apart := false, narrowed := true }
def WalkStrollsUptoSaid : Prop := walkStrollsUptoRow.holds Try.pinned (OpenSpec.upto walkStrollsSpec)

/-- 'tutorlaw21.WalkTrue', WHERE WHAT IT READS IS OF BULK AT MOST 1048576: true; the input reads as it did. -/
def walkTrueUptoRow : OpenClaim := { program := "ytdnjhojjicjndaa", sum := "b2e521cbd4c28dae67b007249ec229d7ff32829a60a5c8ff015204dcf0a30ddc", func := "tutor/tutorlaw21.WalkTrue", spec := "walkTrue", plainKeys := false, apart := false, narrowed := true }
def WalkTrueUptoSaid : Prop := walkTrueUptoRow.holds Try.pinned (OpenSpec.upto walkTrueSpec)

/-- 'tutorlaw21.WalkHunts', WHERE WHAT IT READS IS OF BULK AT MOST 1048576: true; the input reads as it did. -/
def walkHuntsUptoRow : OpenClaim := { program := "ytdnjhojjicjndaa", sum := "b2e521cbd4c28dae67b007249ec229d7ff32829a60a5c8ff015204dcf0a30ddc", func := "tutor/tutorlaw21.WalkHunts", spec := "walkHunts", unfollowed := true, recurses := true, plainKeys := false, apart := false, narrowed := true }
def WalkHuntsUptoSaid : Prop := walkHuntsUptoRow.holds Try.pinned (OpenSpec.upto walkHuntsSpec)

/-- 'tutorlaw21.WalkApart', WHERE WHAT IT READS IS OF BULK AT MOST 1048576: true; the input reads as it did. -/
def walkApartUptoRow : OpenClaim := { program := "ytdnjhojjicjndaa", sum := "b2e521cbd4c28dae67b007249ec229d7ff32829a60a5c8ff015204dcf0a30ddc", func := "tutor/tutorlaw21.WalkApart", spec := "walkApart", unfollowed := true, recurses := true, plainKeys := false, apart := false, narrowed := true }
def WalkApartUptoSaid : Prop := walkApartUptoRow.holds Try.pinned (OpenSpec.upto walkApartSpec)

end Rows
end Go.Proofs.Ytdnjhojjicjndaa
