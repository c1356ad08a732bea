/- Words: their order, their places, the next one; as lists. -/
import Derived.Test.YtjjdadbbiciigaaGreatDoorTrEvMach
namespace Go.Ev
set_option linter.unusedVariables false

/-! ### Places -/

def validW (k : Int) (w : List Int) : Prop := ∀ x ∈ w, 0 ≤ x ∧ x < k

def rankFrom (k n : Int) (w : List Int) : Int := w.foldl (fun n x => n * k + x + 1) n
def rankS (k : Int) (w : List Int) : Int := rankFrom k 0 w

def lo (k : Int) : Nat -> Int
 |0 => 0
 |n + 1 => lo k n * k + 1

theorem rankFrom_app (k n : Int) (a b : List Int) : rankFrom k n (a ++ b) = rankFrom k (rankFrom k n a) b := List.foldl_append
theorem rank_snoc (k x : Int) (w : List Int) : rankS k (w ++ [x]) = rankS k w * k + x + 1 := rankFrom_app k 0 w [x]
theorem mul_le {a b k : Int} (h : a ≤ b) (hk : 0 ≤ k) : a * k ≤ b * k := Int.mul_le_mul_of_nonneg_right h hk

theorem lo_nonneg {k : Int} (hk : 1 ≤ k) : ∀ n, 0 ≤ lo k n
 |0 => Int.le_refl _
 |n + 1 => by
  have := Int.mul_nonneg (lo_nonneg hk n) (show 0 ≤ k by omega)
  simp only [lo]
  omega

theorem snoc_ind {P : List Int -> Prop} (h0 : P []) (h1 : ∀ w x, P w -> P (w ++ [x])) : ∀ w, P w := by
 have : ∀ w : List Int, P w.reverse := by
  intro w
  induction w with
  |nil => exact h0
  |cons x w ih =>
   rw [List.reverse_cons]
   exact h1 _ _ ih
 intro w
 have := this w.reverse
 rwa [List.reverse_reverse] at this

theorem rank_range {k : Int} (hk : 1 ≤ k) : ∀ w : List Int, validW k w -> lo k w.length ≤ rankS k w ∧ rankS k w < lo k (w.length + 1) := by
 refine snoc_ind (fun _ => by simp [rankS, rankFrom, lo]) fun w x ih h => ?_
 have hw : validW k w := fun y hy => h y (List.mem_append_left _ hy)
 have hx := h x (by simp)
 obtain ⟨h1, h2⟩ := ih hw
 rw [rank_snoc, List.length_append]
 simp only [List.length_cons, List.length_nil, Nat.zero_add]
 have e1 : lo k (w.length + 1) = lo k w.length * k + 1 := rfl
 have e2 : lo k (w.length + 1 + 1) = lo k (w.length + 1) * k + 1 := rfl
 have h3 := mul_le h1 (show 0 ≤ k by omega)
 have h4 := mul_le (show rankS k w + 1 ≤ lo k (w.length + 1) by omega) (show 0 ≤ k by omega)
 rw [Int.add_mul, Int.one_mul] at h4
 omega

theorem rank_nonneg {k : Int} (hk : 1 ≤ k) {w : List Int} (h : validW k w) : 0 ≤ rankS k w := by
 have := (rank_range hk w h).1
 have := lo_nonneg hk w.length
 omega

/-! ### The next word -/

/-! ### Counters -/

def maxC : Int := 1099511627776
def badC (a : Int) : Prop := a < 0 ∨ a > maxC
instance (a : Int) : Decidable (badC a) := by unfold badC; infer_instance
/-! ### Words at places -/

end Go.Ev
