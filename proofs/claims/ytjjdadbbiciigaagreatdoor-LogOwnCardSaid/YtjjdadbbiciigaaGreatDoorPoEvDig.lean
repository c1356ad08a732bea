/- Numbers read by counting their digits first. -/
import Derived.Test.YtjjdadbbiciigaaGreatDoorPoEvNum
namespace Go.Ev
set_option linter.unusedVariables false
set_option linter.unusedSimpArgs false

def digC : List Int -> Nat
 |[] => 0
 |c :: cs => if isDig c then digC cs + 1 else 0

def valN : List Int -> Nat -> Int -> Int
 |c :: cs, m + 1, n => valN cs m (10 * n + (c - 48))
 |_, _, n => n

theorem digC_nil : digC [] = 0 := rfl
theorem digC_yes {c : Int} {cs : List Int} (d : isDig c) : digC (c :: cs) = digC cs + 1 := by
 show (if isDig c then digC cs + 1 else 0) = _
 rw [if_pos d]
theorem digC_no {c : Int} {cs : List Int} (d : ¬ isDig c) : digC (c :: cs) = 0 := by
 show (if isDig c then digC cs + 1 else 0) = _
 rw [if_neg d]

theorem numR_count : ∀ (l : List Int) (k : Nat) (z : Bool) (n : Int), k ≤ 4 -> (2 ≤ k ∨ (k = 1 ∧ z = false)) →
  numR l k z n = if k + digC l > 4 then (0, 4, 6) else (valN l (digC l) n, k + digC l, 0)
 |[], k, z, n, h4, h => by
  rw [digC_nil]
  simp only [numR]
  rw [if_neg (show ¬ k = 0 by omega), if_neg (show ¬ k + 0 > 4 by omega)]
  rfl
 |c :: cs, k, z, n, h4, h => by
  simp only [numR]
  by_cases d : isDig c
  ·rw [if_pos d, digC_yes d]
   by_cases k4 : k = 4
   ·rw [if_pos (.inl k4), if_pos (by omega), k4]
   ·have hz : ¬ (k = 1 ∧ z = true) := by
     rintro ⟨h1, h2⟩
     rcases h with h | ⟨_, h⟩
     ·omega
     ·rw [h] at h2; cases h2
    rw [if_neg (by rintro (h | h); exact k4 h; exact hz h), numR_count cs (k + 1) _ _ (by omega) (.inl (by omega))]
    by_cases g : k + (digC cs + 1) > 4
    ·rw [if_pos g, if_pos (by omega)]
    ·rw [if_neg g, if_neg (by omega), show k + 1 + digC cs = k + (digC cs + 1) by omega]
     rfl
  ·rw [if_neg d, digC_no d, if_neg (show ¬ k = 0 by omega), if_neg (show ¬ k + 0 > 4 by omega)]
   rfl

theorem numL_count (l : List Int) : numL l = if digC l = 0 then (0, 0, 6) else if 1 < digC l ∧ l.getD 0 0 = 48 then (0, 1, 6) else if 4 < digC l then (0, 4, 6) else (valN l (digC l) 0, digC l, 0) := by
 unfold numL
 cases l with
 |nil => rfl
 |cons c cs =>
  simp only [numR]
  by_cases d : isDig c
  ·rw [if_pos d, digC_yes d, if_neg (show ¬ (0 = 4 ∨ 0 = 1 ∧ false = true) by omega), if_neg (show ¬ digC cs + 1 = 0 by omega), if_pos trivial]
   show numR cs 1 (decide (c = 48)) (10 * 0 + (c - 48)) = _
   by_cases z : c = 48
   ·rw [decide_eq_true z]
    cases cs with
    |nil =>
     rw [digC_nil, if_neg (show ¬ (1 < 0 + 1 ∧ ([c] : List Int).getD 0 0 = 48) by omega), if_neg (show ¬ 4 < 0 + 1 by omega)]
     simp [numR, valN]
    |cons x xs =>
     simp only [numR]
     by_cases dx : isDig x
     ·rw [if_pos dx, digC_yes dx, if_pos (.inr (by simp)), if_pos ⟨by omega, z⟩]
     ·rw [if_neg dx, digC_no dx, if_neg (by omega), if_neg (by omega), if_neg (by omega)]
      simp [valN]
   ·rw [decide_eq_false z, numR_count cs 1 false _ (by omega) (.inr ⟨rfl, rfl⟩), if_neg (show ¬ (1 < digC cs + 1 ∧ (c :: cs).getD 0 0 = 48) from fun h => z h.2)]
    by_cases g : 4 < digC cs + 1
    ·rw [if_pos g, if_pos (by omega)]
    ·rw [if_neg g, if_neg (by omega), show 1 + digC cs = digC cs + 1 by omega]
     rfl
  ·rw [if_neg d, digC_no d, if_pos trivial, if_pos rfl]

theorem digC_le : ∀ l : List Int, digC l ≤ l.length
 |[] => Nat.le_refl _
 |c :: cs => by
  have := digC_le cs
  simp only [digC, List.length_cons]
  split <;> omega

theorem digC_dig : ∀ (l : List Int) (j : Nat) (h : j < l.length), j < digC l -> isDig l[j]
 |c :: cs, j, h, hj => by
  simp only [digC] at hj
  by_cases d : isDig c
  ·rw [if_pos d] at hj
   cases j with
   |zero => exact d
   |succ j => exact digC_dig cs j (by simpa using h) (by omega)
  ·rw [if_neg d] at hj
   omega

end Go.Ev
