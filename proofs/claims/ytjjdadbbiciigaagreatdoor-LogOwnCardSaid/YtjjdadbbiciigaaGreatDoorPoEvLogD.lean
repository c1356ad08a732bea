/- Logs: a whole log's text, there and back. -/
import Derived.Test.YtjjdadbbiciigaaGreatDoorPoEvLog
namespace Go.Ev
open Go.Proofs
set_option linter.unusedVariables false
set_option linter.unusedSimpArgs false

def entT (x : Ent) : List Int :=
 if x.1.1 = 1 then askT x.1.2.1 x.2.2.1 else tstT (exportS x.1.2.2.1 x.1.2.2.2.1 x.1.2.2.2.2.1 x.1.2.2.2.2.2.1 x.1.2.2.2.2.2.2.1 x.1.2.2.2.2.2.2.2).1 x.2.1 x.2.2.2
def entsT (l : List Ent) : List Int := (l.map entT).flatten
theorem entsT_cons (x : Ent) (l : List Ent) : entsT (x :: l) = entT x ++ entsT l := rfl
def lheadT (k K O : Int) : List Int := if k = 2 then [108, 111, 103, 32, 109, 101, 97, 108, 121] ++ lnumS [K, O] ++ [10] else [108, 111, 103, 32, 100, 102, 97] ++ lnumS [K] ++ [10]

def showE (x : Ent) : Prop :=
 (x.1.1 = 1 ∧ (x.1.2.1.length ≤ 100000 ∧ ∀ y ∈ x.1.2.1, inI y) ∧ x.2.2.1.length ≤ 100000 ∧ ∀ y ∈ x.2.2.1, inI y) ∨
 (x.1.1 = 2 ∧ (okL x.1.2.2.2.2.2.2.1 ∧ okL x.1.2.2.2.2.2.2.2) ∧ (exportS x.1.2.2.1 x.1.2.2.2.1 x.1.2.2.2.2.1 x.1.2.2.2.2.2.1 x.1.2.2.2.2.2.2.1 x.1.2.2.2.2.2.2.2).1.length ≤ 100000000 ∧ x.2.2.2.length ≤ 100000 ∧ ∀ y ∈ x.2.2.2, inI y)

theorem lnumS_len {l : List Int} (hi : ∀ x ∈ l, inI x) : (lnumS l).length ≤ 22 * l.length := by
 induction l with
 |nil => simp [lnumS]
 |cons x xs ih =>
  have h1 := itoaI_len (hi x (List.mem_cons_self ..))
  have h2 := ih fun y hy => hi y (List.mem_cons_of_mem _ hy)
  rw [lnumS_cons, List.length_append, List.length_cons, List.length_cons]
  omega

theorem entT_len {x : Ent} (h : showE x) : (entT x).length ≤ 110000000 := by
 unfold entT
 rcases h with ⟨h1, ⟨h2, h3⟩, h4, h5⟩ | ⟨h1, h2, h3, h4, h5⟩
 ·rw [if_pos h1]
  have a := lnumS_len h3
  have b := lnumS_len h5
  unfold askT
  simp only [List.length_append, List.length_cons, List.length_nil]
  omega
 ·rw [if_neg (by omega)]
  have b := lnumS_len h5
  unfold tstT
  split <;> simp only [List.length_append, List.length_cons, List.length_nil] <;> omega

def parseT (b : List Int) : Int × Int × Int × Int × Int × List Ent :=
 if (b.length : Int) > 16777216 then (0, 0, 0, 2, 0, [])
 else if nentS b > 65536 then (0, 0, 0, 3, 0, [])
 else match (firstL b (.inr 0)).2.2.2 with
  |.inl f => (0, 0, 0, f.1, f.2, [])
  |.inr a => match parsS (firstL b (.inr 0)).1 (firstL b (.inr 0)).2.1 (firstL b (.inr 0)).2.2.1 b (b.length + 1) a [] with
   |.inl f => (0, 0, 0, f.1, f.2, [])
   |.inr l => ((firstL b (.inr 0)).1, (firstL b (.inr 0)).2.1, (firstL b (.inr 0)).2.2.1, 0, (b.length : Int), l)

theorem parseP_eq {R : Type} (b : List Int) (K0 : Int -> Int -> Int -> Int -> Int -> List Ent -> Option R) : parseP b K0 = K0 (parseT b).1 (parseT b).2.1 (parseT b).2.2.1 (parseT b).2.2.2.1 (parseT b).2.2.2.2.1 (parseT b).2.2.2.2.2 := by
 unfold parseP parseT
 by_cases h1 : (b.length : Int) > 16777216
 ·rw [if_pos h1, if_pos h1]
 rw [if_neg h1, if_neg h1]
 by_cases h2 : nentS b > 65536
 ·rw [if_pos h2, if_pos h2]
 rw [if_neg h2, if_neg h2]
 cases (firstL b (.inr 0)).2.2.2 with
 |inl f => rfl
 |inr a =>
  dsimp only
  cases parsS (firstL b (.inr 0)).1 (firstL b (.inr 0)).2.1 (firstL b (.inr 0)).2.2.1 b (b.length + 1) a [] <;> rfl

theorem lheadS_zero {k K O : Int} {n : Nat} : lheadS k K O n = 0 ↔ (k = 1 ∨ k = 2) ∧ (1 ≤ K ∧ K ≤ 64) ∧ (k = 1 -> O = 2) ∧ (1 ≤ O ∧ O ≤ 64) ∧ n ≤ 65536 := by
 unfold lheadS
 by_cases h1 : k ≠ 1 ∧ k ≠ 2
 ·rw [if_pos h1]
  omega
 rw [if_neg h1]
 by_cases h2 : K < 1 ∨ K > 64
 ·rw [if_pos h2]
  omega
 rw [if_neg h2]
 by_cases h3 : (k = 1 ∧ O ≠ 2) ∨ O < 1 ∨ O > 64
 ·rw [if_pos h3]
  omega
 rw [if_neg h3]
 split <;> omega

theorem lcheckS_head {k K O : Int} {l : List Ent} (h : (lcheckS k K O l).2 = 0) : lheadS k K O l.length = 0 := by
 unfold lcheckS at h
 by_cases c : lheadS k K O l.length = 0
 ·exact c
 ·rw [if_pos c] at h
  exact absurd h c

end Go.Ev
