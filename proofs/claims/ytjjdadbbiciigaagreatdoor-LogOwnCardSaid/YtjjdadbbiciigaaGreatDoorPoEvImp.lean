/- Texts read as machines. -/
import Derived.Test.YtjjdadbbiciigaaGreatDoorPoEvText
namespace Go.Ev
set_option linter.unusedVariables false
set_option linter.unusedSimpArgs false

abbrev Rd (α : Type) := (Int × Int) ⊕ α

def bindR {α β : Type} (x : Rd α) (f : α -> Rd β) : Rd β :=
 match x with
 |.inl e => .inl e
 |.inr a => f a

def wantS : List Int -> List Int -> Nat -> Rd Nat
 |[], _, a => .inr a
 |c :: s, b, a => if b[a]? = some c then wantS s b (a + 1) else .inl (6, (a : Int))

def numbS (lo hi kd : Int) (b : List Int) (a : Nat) : Rd (Int × Nat) :=
 if (numL (b.drop a)).2.2 ≠ 0 then .inl ((numL (b.drop a)).2.2, ((a + (numL (b.drop a)).2.1 : Nat) : Int))
 else if (numL (b.drop a)).1 < lo ∨ hi < (numL (b.drop a)).1 then .inl (kd, (a : Int))
 else .inr ((numL (b.drop a)).1, a + (numL (b.drop a)).2.1)

def cellS (k O N : Int) (b : List Int) (x a : Nat) (nx ou : List Int) : Rd (Nat × List Int × List Int) :=
 bindR (if 0 < x ∨ k = 1 then wantS [32] b a else .inr a) fun a1 =>
 bindR (numbS 0 (N - 1) 32 b a1) fun q =>
 if k = 2 then bindR (wantS [47] b q.2) fun a2 => bindR (numbS 0 (O - 1) 33 b a2) fun p => .inr (p.2, nx ++ [q.1], ou ++ [p.1])
 else .inr (q.2, nx ++ [q.1], ou)

def cellsS (k O N : Int) (b : List Int) : Nat -> Nat -> Nat -> List Int -> List Int -> Rd (Nat × List Int × List Int)
 |0, _, a, nx, ou => .inr (a, nx, ou)
 |d + 1, x, a, nx, ou => bindR (cellS k O N b x a nx ou) fun q => cellsS k O N b d (x + 1) q.1 q.2.1 q.2.2

def leadS (k : Int) (b : List Int) (a : Nat) (ou : List Int) : Rd (Nat × List Int) :=
 if k = 1 then bindR (numbS 0 1 33 b a) fun q => .inr (q.2, ou ++ [q.1]) else .inr (a, ou)

def rowS (k K O N : Int) (b : List Int) (a : Nat) (nx ou : List Int) : Rd (Nat × List Int × List Int) :=
 bindR (leadS k b a ou) fun p => bindR (cellsS k O N b K.toNat 0 p.1 nx p.2) fun q => bindR (wantS [10] b q.1) fun a2 => .inr (a2, q.2.1, q.2.2)

def rowsS (k K O N : Int) (b : List Int) : Nat -> Nat -> List Int -> List Int -> Rd (Nat × List Int × List Int)
 |0, a, nx, ou => .inr (a, nx, ou)
 |d + 1, a, nx, ou => bindR (rowS k K O N b a nx ou) fun q => rowsS k K O N b d q.1 q.2.1 q.2.2

def headI (b : List Int) : Rd (Int × Int × Int × Int × Nat) :=
 if b[0]? = some 109 then
  bindR (wantS [109, 101, 97, 108, 121, 32] b 0) fun a0 => bindR (numbS 1 64 1 b a0) fun q1 => bindR (wantS [32] b q1.2) fun a1 =>
  bindR (numbS 1 64 33 b a1) fun q2 => bindR (wantS [32] b q2.2) fun a2 => bindR (numbS 1 1024 3 b a2) fun q3 => bindR (wantS [10] b q3.2) fun a3 => .inr (2, q1.1, q2.1, q3.1, a3)
 else
  bindR (wantS [100, 102, 97, 32] b 0) fun a0 => bindR (numbS 1 64 1 b a0) fun q1 => bindR (wantS [32] b q1.2) fun a1 =>
  bindR (numbS 1 1024 3 b a1) fun q3 => bindR (wantS [10] b q3.2) fun a3 => .inr (1, q1.1, 2, q3.1, a3)

def readS (b : List Int) : Rd (Int × Int × Int × Int × List Int × List Int) :=
 bindR (headI b) fun h => bindR (rowsS h.1 h.2.1 h.2.2.1 h.2.2.2.1 b h.2.2.2.1.toNat h.2.2.2.2 [] []) fun q =>
 if q.1 < b.length then .inl (6, (q.1 : Int)) else .inr (h.1, h.2.1, h.2.2.1, h.2.2.2.1, q.2.1, q.2.2)

structure Imp where
 k : Int
 K : Int
 O : Int
 N : Int
 e : Int
 p : Int
 nx : List Int
 ou : List Int
 deriving DecidableEq

def impS (b : List Int) : Imp :=
 if (b.length : Int) > 16777216 then ⟨0, 0, 0, 0, 2, 0, [], []⟩
 else match readS b with
  |.inl e => ⟨0, 0, 0, 0, e.1, e.2, [], []⟩
  |.inr m => ⟨m.1, m.2.1, m.2.2.1, m.2.2.2.1, 0, (b.length : Int), m.2.2.2.2.1, m.2.2.2.2.2⟩

theorem bindR_inr {α β : Type} (a : α) (f : α -> Rd β) : bindR (.inr a) f = f a := rfl
theorem bindR_ok {α β : Type} {x : Rd α} {f : α -> Rd β} {y : β} (h : bindR x f = .inr y) : ∃ a, x = .inr a ∧ f a = .inr y := by
 cases x with
 |inl e => cases h
 |inr a => exact ⟨a, rfl, h⟩

theorem wantS_ok : ∀ {s b : List Int} {a c : Nat}, wantS s b a = .inr c -> c = a + s.length ∧ b.drop a = s ++ b.drop c
 |[], b, a, c, h => by
  obtain rfl : a = c := by cases h; rfl
  exact ⟨rfl, rfl⟩
 |x :: s, b, a, c, h => by
  unfold wantS at h
  by_cases hx : b[a]? = some x
  ·rw [if_pos hx] at h
   obtain ⟨h1, h2⟩ := wantS_ok h
   refine ⟨by simp [h1]; omega, ?_⟩
   obtain ⟨hlt, hget⟩ := List.getElem?_eq_some_iff.1 hx
   rw [List.drop_eq_getElem_cons hlt, hget, h2]
   rfl
  ·rw [if_neg hx] at h
   cases h

theorem wantS_le {s b : List Int} {a c : Nat} (h : wantS s b a = .inr c) (ha : a ≤ b.length) : c ≤ b.length := by
 obtain ⟨h1, h2⟩ := wantS_ok h
 have := congrArg List.length h2
 simp only [List.length_append, List.length_drop] at this
 omega

theorem numbS_ok {lo hi kd : Int} {b : List Int} {a : Nat} {q : Int × Nat} (h : numbS lo hi kd b a = .inr q) :
  numL (b.drop a) = (q.1, q.2 - a, 0) ∧ a ≤ q.2 ∧ lo ≤ q.1 ∧ q.1 ≤ hi := by
 unfold numbS at h
 by_cases h1 : (numL (b.drop a)).2.2 ≠ 0
 ·rw [if_pos h1] at h; cases h
 ·rw [if_neg h1] at h
  by_cases h2 : (numL (b.drop a)).1 < lo ∨ hi < (numL (b.drop a)).1
  ·rw [if_pos h2] at h; cases h
  ·rw [if_neg h2] at h
   cases h
   have h1 : (numL (b.drop a)).2.2 = 0 := Decidable.not_not.1 h1
   refine ⟨?_, by simp, by simp; omega, by simp; omega⟩
   simp only [Nat.add_sub_cancel_left]
   rw [← h1]

theorem numbS_le {lo hi kd : Int} {b : List Int} {a : Nat} {q : Int × Nat} (h : numbS lo hi kd b a = .inr q) (ha : a ≤ b.length) : q.2 ≤ b.length := by
 obtain ⟨h1, h2, _⟩ := numbS_ok h
 have := numL_le (b.drop a)
 rw [h1] at this
 simp only [List.length_drop] at this
 omega

theorem numbS_lt {lo hi kd : Int} {b : List Int} {a : Nat} {q : Int × Nat} (h : numbS lo hi kd b a = .inr q) : a < q.2 := by
 obtain ⟨h1, h2, _⟩ := numbS_ok h
 obtain ⟨_, _, h3, _⟩ := num_there h1
 have := itoaI_pos q.1
 omega

def outR {R β : Type} (G : Int -> Int -> Option R) (J : β -> Option R) : Rd β -> Option R
 |.inl e => G e.1 e.2
 |.inr q => J q

end Go.Ev
