/- Words: their order, their places, the next one; as lists. -/
import Derived.Test.YtjjdadbbiciigaaGreatDoorTkEvMach
namespace Go.Ev
set_option linter.unusedVariables false

/-! ### Places -/

def validW (k : Int) (w : List Int) : Prop := ∀ x ∈ w, 0 ≤ x ∧ x < k

def rankFrom (k n : Int) (w : List Int) : Int := w.foldl (fun n x => n * k + x + 1) n
def rankS (k : Int) (w : List Int) : Int := rankFrom k 0 w

def lo (k : Int) : Nat -> Int
 |0 => 0
 |n + 1 => lo k n * k + 1

theorem rankFrom_app (k n : Int) (a b : List Int) : rankFrom k n (a ++ b) = rankFrom k (rankFrom k n a) b := List.foldl_append
theorem rank_snoc (k x : Int) (w : List Int) : rankS k (w ++ [x]) = rankS k w * k + x + 1 := rankFrom_app k 0 w [x]
theorem mul_le {a b k : Int} (h : a ≤ b) (hk : 0 ≤ k) : a * k ≤ b * k := Int.mul_le_mul_of_nonneg_right h hk

/-! ### The next word -/

/-! ### Counters -/

def maxC : Int := 1099511627776
def badC (a : Int) : Prop := a < 0 ∨ a > maxC
instance (a : Int) : Decidable (badC a) := by unfold badC; infer_instance
/-! ### Words at places -/

end Go.Ev
