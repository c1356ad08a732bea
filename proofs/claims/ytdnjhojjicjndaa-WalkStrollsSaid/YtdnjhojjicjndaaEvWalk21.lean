/- Numbers that are drawn. -/
import Derived.Test.YtdnjhojjicjndaaEvMach
namespace Go.Ev
set_option linter.unusedVariables false

/-- The number that is held from then on. -/
def mixS (x : Int) : Int :=
  let a := IntKind.u64.wrap (BitVec.ofInt 64 x ^^^ BitVec.ofInt 64 (x.fdiv (2 ^ (min (12 : Int).toNat 64)))).toNat
  let b := IntKind.u64.wrap (BitVec.ofInt 64 a ^^^ BitVec.ofInt 64 (IntKind.u64.wrap (a * 2 ^ (min (25 : Int).toNat 64)))).toNat
  IntKind.u64.wrap (BitVec.ofInt 64 b ^^^ BitVec.ofInt 64 (b.fdiv (2 ^ (min (27 : Int).toNat 64)))).toNat
/-- 31 bits of it. -/
def bitsS (x : Int) : Int := (IntKind.u64.wrap (x * 2685821657736338717)).fdiv (2 ^ (min (33 : Int).toNat 64))
/-- A number below n, and what is held. -/
def intS (n x : Int) : Int × Int := if n < 1 then (0, x) else (IntKind.i64.wrap ((bitsS (mixS x)).tmod (IntKind.u64.wrap n)), mixS x)

theorem bitsS_nonneg (x : Int) : 0 ≤ bitsS x := by
  unfold bitsS
  rw [wru]
  have e : (2 : Int) ^ (min (33 : Int).toNat 64) = 8589934592 := by decide
  rw [e, Int.fdiv_eq_ediv_of_nonneg _ (by omega)]
  omega
theorem intS_in {n x : Int} (h : 1 ≤ n) (hn : inI n) : 0 ≤ (intS n x).1 ∧ (intS n x).1 < n := by
  unfold intS
  obtain ⟨_, h2⟩ := hn
  rw [if_neg (by omega), wru, Int.emod_eq_of_lt (by omega) (by omega)]
  have h0 := bitsS_nonneg (mixS x)
  have h1 : (bitsS (mixS x)).tmod n = bitsS (mixS x) % n := Int.tmod_eq_emod_of_nonneg h0
  have h3 := Int.emod_nonneg (bitsS (mixS x)) (show n ≠ 0 by omega)
  have h4 := Int.emod_lt_of_pos (bitsS (mixS x)) (show 0 < n by omega)
  dsimp only
  rw [h1, wr _ (by omega) (by omega)]
  omega
theorem intS_zero {n x : Int} (h : n < 1) : intS n x = (0, x) := by
  unfold intS
  rw [if_pos h]

/-- n numbers below k. -/
def drawsS (k : Int) : Nat → Int → List Int × Int
  | 0, x => ([], x)
  | n + 1, x => ((drawsS k n x).1 ++ [(intS k (drawsS k n x).2).1], (intS k (drawsS k n x).2).2)
theorem drawsS_len (k : Int) : ∀ (n : Nat) (x : Int), (drawsS k n x).1.length = n
  | 0, _ => rfl
  | n + 1, x => by simp [drawsS, drawsS_len k n x]

def fitW (k low high : Int) : Int := if k < 1 ∨ k > 64 ∨ low < 0 ∨ high < low then 1 else if high > 4096 then 2 else 0
theorem fitW_zero {k low high : Int} (h : fitW k low high = 0) : (1 ≤ k ∧ k ≤ 64) ∧ 0 ≤ low ∧ low ≤ high ∧ high ≤ 4096 := by
  unfold fitW at h
  split at h
  · omega
  · split at h
    · omega
    · omega
/-- A word, and what is held. -/
def lenS (low high x : Int) : Nat := (low + (intS (high - low + 1) x).1).toNat
def wordD (k low high x : Int) : List Int × Int := drawsS k (lenS low high x) (intS (high - low + 1) x).2
theorem lenS_in {low high x : Int} (h : 0 ≤ low ∧ low ≤ high ∧ high ≤ 4096) : low + (intS (high - low + 1) x).1 = (lenS low high x : Int) ∧ lenS low high x ≤ 4096 := by
  have := intS_in (n := high - low + 1) (x := x) (by omega) ⟨by omega, by omega⟩
  unfold lenS
  omega
/-- error, word, what is held -/
def drawnS (k low high x : Int) : Int × List Int × Int :=
  if fitW k low high ≠ 0 then (fitW k low high, [], x) else (0, (wordD k low high x).1, (wordD k low high x).2)

end Go.Ev
