/- Words that are drawn one by one. -/
import Derived.Test.YtdnjhojjicjndaaEvTrip
namespace Go.Ev
set_option linter.unusedVariables false
set_option linter.unusedSimpArgs false

/-- n words, drawn one by one. -/
def lotsS (k low high : Int) : Nat → Int → List (List Int)
  | 0, _ => []
  | n + 1, x => (drawnS k low high x).2.1 :: lotsS k low high n (drawnS k low high x).2.2

theorem lotsS_len (k low high : Int) : ∀ (n : Nat) (x : Int), (lotsS k low high n x).length = n
  | 0, _ => rfl
  | n + 1, x => by simp [lotsS, lotsS_len k low high n]

theorem drawnS_short {k low high x : Int} : (drawnS k low high x).2.1.length ≤ 4096 := by
  unfold drawnS
  split
  · simp
  · rename_i h
    have h : fitW k low high = 0 := by omega
    have := (lenS_in (x := x) (fitW_zero h).2).2
    show (drawsS k (lenS low high x) _).1.length ≤ 4096
    rw [drawsS_len]
    exact this

theorem lotsS_short {k low high : Int} : ∀ (n : Nat) (x : Int), ∀ w ∈ lotsS k low high n x, w.length ≤ 4096
  | 0, _, w, h => by simp [lotsS] at h
  | n + 1, x, w, h => by
    simp only [lotsS, List.mem_cons] at h
    rcases h with rfl | h
    · exact drawnS_short
    · exact lotsS_short n _ w h

/-- What is wrong with a list of draws. -/
def askS (k count low high : Int) : Int := if fitW k low high ≠ 0 then fitW k low high else if count < 0 then 1 else if count > 65536 then 3 else 0

theorem askS_zero {k count low high : Int} (h : askS k count low high = 0) : fitW k low high = 0 ∧ 0 ≤ count ∧ count ≤ 65536 := by
  unfold askS at h
  split at h
  · omega
  · split at h
    · omega
    · split at h
      · omega
      · omega

end Go.Ev
