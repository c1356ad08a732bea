/- A machine's text, read back. -/
import Derived.Test.YtjjdadbbiciigaaGreatDoorPoEvImp
namespace Go.Ev
set_option linter.unusedVariables false
set_option linter.unusedSimpArgs false

theorem drop_next {b s rest : List Int} {a : Nat} (h : b.drop a = s ++ rest) : b.drop (a + s.length) = rest := by
 rw [← List.drop_drop, h, List.drop_left]

def cellT (k K : Int) (nx ou : List Int) (s x : Nat) : List Int :=
 if k = 1 then itoaI (nx.getD (s * K.toNat + x) 0) else itoaI (nx.getD (s * K.toNat + x) 0) ++ [47] ++ itoaI (ou.getD (s * K.toNat + x) 0)

theorem expCell_eq (k K : Int) (nx ou : List Int) (s x : Nat) : expCell k K nx ou s x = cellT k K nx ou s x ++ [behind K x] := by
 unfold expCell cellT
 split <;> simp

def lineT (k K : Int) (nx ou : List Int) (s : Nat) : Nat -> Nat -> List Int
 |0, _ => []
 |d + 1, x => (if 0 < x ∨ k = 1 then [32] else []) ++ cellT k K nx ou s x ++ lineT k K nx ou s d (x + 1)

theorem line_snoc (k K : Int) (nx ou : List Int) (s : Nat) : ∀ d x : Nat, lineT k K nx ou s (d + 1) x = lineT k K nx ou s d x ++ (if 0 < x + d ∨ k = 1 then [32] else []) ++ cellT k K nx ou s (x + d)
 |0, x => by simp [lineT]
 |d + 1, x => by
  show (if 0 < x ∨ k = 1 then [32] else []) ++ cellT k K nx ou s x ++ lineT k K nx ou s (d + 1) (x + 1) = _
  rw [line_snoc k K nx ou s d (x + 1)]
  have e : x + 1 + d = x + (d + 1) := by omega
  rw [e]
  simp only [lineT, List.append_assoc]

theorem cells_line (k K : Int) (nx ou : List Int) (s : Nat) : ∀ x : Nat, (x : Int) ≤ K -> 0 < x →
  (if k = 1 then [32] else []) ++ expCells k K nx ou s x = lineT k K nx ou s x 0 ++ (if (x : Int) = K then [10] else [32])
 |0, _, h => absurd h (by omega)
 |1, hx, _ => by
  have hb : behind K 0 = if ((1 : Nat) : Int) = K then 10 else 32 := by
   unfold behind
   by_cases h : ((1 : Nat) : Int) = K
   ·rw [if_pos h, if_pos (by omega)]
   ·rw [if_neg h, if_neg (by omega)]
  simp only [expCells, lineT, expCell_eq, hb, List.nil_append, List.append_nil]
  by_cases h : ((1 : Nat) : Int) = K
  ·rw [if_pos h, if_pos h]
   by_cases h1 : k = 1 <;> simp [h1]
  ·rw [if_neg h, if_neg h]
   by_cases h1 : k = 1 <;> simp [h1]
 |x + 2, hx, _ => by
  have ih := cells_line k K nx ou s (x + 1) (by omega) (by omega)
  rw [if_neg (show ¬ (((x + 1 : Nat) : Int) = K) by omega)] at ih
  have hb : behind K (x + 1) = if ((x + 2 : Nat) : Int) = K then 10 else 32 := by
   unfold behind
   by_cases h : ((x + 2 : Nat) : Int) = K
   ·rw [if_pos h, if_pos (by omega)]
   ·rw [if_neg h, if_neg (by omega)]
  rw [line_snoc, if_pos (show 0 < 0 + (x + 1) ∨ k = 1 from .inl (by omega))]
  show _ ++ (expCells k K nx ou s (x + 1) ++ expCell k K nx ou s (x + 1)) = _
  rw [← List.append_assoc, ih, expCell_eq, hb, Nat.zero_add]
  by_cases h : ((x + 2 : Nat) : Int) = K
  ·rw [if_pos h, if_pos h]
   simp
  ·rw [if_neg h, if_neg h]
   simp

variable {k K O N : Int} {nx ou : List Int}

def rowsT (k K : Int) (nx ou : List Int) : Nat -> Nat -> List Int
 |_, 0 => []
 |s, d + 1 => expLead k ou s ++ expCells k K nx ou s K.toNat ++ rowsT k K nx ou (s + 1) d

theorem rowsT_eq (k K : Int) (nx ou : List Int) : ∀ (d s : Nat), expRows k K nx ou (s + d) = expRows k K nx ou s ++ rowsT k K nx ou s d
 |0, s => by simp [rowsT]
 |d + 1, s => by
  have ih := rowsT_eq k K nx ou d (s + 1)
  rw [show s + (d + 1) = s + 1 + d by omega, ih]
  simp only [expRows, rowsT, List.append_assoc]

end Go.Ev
