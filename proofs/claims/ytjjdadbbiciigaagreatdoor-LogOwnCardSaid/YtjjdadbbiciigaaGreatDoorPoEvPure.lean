/- What the trees are made of, and the laws of loops. -/
import Derived.Test.YtjjdadbbiciigaaGreatDoorPoEvData
namespace Go.Ev
set_option linter.unusedVariables false

theorem wr (x : Int) (h0 : -9223372036854775808 ≤ x) (h1 : x ≤ 9223372036854775807) : IntKind.i64.wrap x = x := by
 have e : IntKind.i64.wrap x = (let m := x % 18446744073709551616; if m ≥ 9223372036854775808 then m - 18446744073709551616 else m) := by
  simp [IntKind.wrap, IntKind.bits, IntKind.signed]
 rw [e]
 dsimp only
 split <;> omega
theorem wru (x : Int) : IntKind.u64.wrap x = x % 18446744073709551616 := by simp [IntKind.wrap, IntKind.bits, IntKind.signed]

def bi {R : Type} (b : Bool) (x y : Option R) : Option R :=
 match b with
 |true => x
 |false => y

theorem bi_some {R : Type} {b : Bool} {x y : Option R} {r : R} (h : bi b x y = some r) : (b = true ∧ x = some r) ∨ (b = false ∧ y = some r) := by
 cases b
 ·exact .inr ⟨rfl, h⟩
 ·exact .inl ⟨rfl, h⟩

section
variable {R : Type} {x y : Option R}
theorem br_pos {p : Prop} [Decidable p] (h : p) : bi (decide p) x y = x := by rw [decide_eq_true h]; rfl
theorem br_neg {p : Prop} [Decidable p] (h : ¬ p) : bi (decide p) x y = y := by rw [decide_eq_false h]; rfl
theorem br_eq {a b : Int} (h : a = b) : bi (a == b) x y = x := by rw [h]; simp [bi]
theorem br_eq' {a b : Int} (h : a ≠ b) : bi (a == b) x y = y := by
 have : (a == b) = false := by simpa using h
 rw [this]; rfl
theorem br_ne {a b : Int} (h : a ≠ b) : bi (a != b) x y = x := by
 have : (a != b) = true := by simpa using h
 rw [this]; rfl
theorem br_ne' {a b : Int} (h : a = b) : bi (a != b) x y = y := by rw [h]; simp [bi]
theorem br_if (b : Bool) : bi b x y = if b = true then x else y := by cases b <;> rfl
theorem br_tt : bi true x y = x := by rw [br_if, if_pos rfl]
theorem br_ff : bi false x y = y := by rw [br_if, if_neg (by decide)]
theorem br_same (b : Bool) : bi b x x = x := by cases b <;> rfl
end

theorem ite_l {α : Type} {p : Prop} [Decidable p] {a b c : α} (h1 : p -> a = c) (h2 : ¬ p -> b = c) : (if p then a else b) = c := by
 by_cases h : p
 ·rw [if_pos h]; exact h1 h
 ·rw [if_neg h]; exact h2 h
theorem ite_r {α : Type} {p : Prop} [Decidable p] {a b c : α} (h1 : p -> c = a) (h2 : ¬ p -> c = b) : c = (if p then a else b) := by
 by_cases h : p
 ·rw [if_pos h]; exact h1 h
 ·rw [if_neg h]; exact h2 h

noncomputable def twice {R : Type} (A : Option R) : Option R := both A A
noncomputable def thrice {R : Type} (A : Option R) : Option R := both A (both A A)
theorem twice_eq {R : Type} (A : Option R) : twice A = A := both_same A
theorem thrice_eq {R : Type} (A : Option R) : thrice A = A := by
 unfold thrice
 rw [both_same, both_same]

def inI (x : Int) : Prop := -9223372036854775808 ≤ x ∧ x ≤ 9223372036854775807
instance (x : Int) : Decidable (inI x) := by unfold inI; infer_instance
def short {α : Type} (l : List α) : Prop := l.length < 4611686018427387904
instance {α : Type} (l : List α) : Decidable (short l) := by unfold short; infer_instance
def okL (l : List Int) : Prop := short l ∧ ∀ x ∈ l, inI x
instance (l : List Int) : Decidable (okL l) := by unfold okL; infer_instance

def okW (l : List Int) : Prop := l.length ≤ 17592186043904 ∧ ∀ x ∈ l, inI x
def inU (x : Int) : Prop := 0 ≤ x ∧ x ≤ 18446744073709551615
theorem okW.okL {l : List Int} (h : okW l) (hl : short l) : okL l := ⟨hl, h.2⟩

theorem getD_of {α : Type} {l : List α} {i : Nat} (d : α) (h : i < l.length) : l.getD i d = l[i] := by
 rw [List.getD_eq_getElem?_getD, List.getElem?_eq_getElem h]; rfl

def findP {α : Type} (p : α -> Bool) : List α -> Option Nat
 |[] => none
 |x :: xs => if p x then some 0 else (findP p xs).map (· + 1)

theorem scan_run {R α : Type} {F : Nat -> Nat -> Option R} {p : α -> Bool} {l : List α} {A : Nat -> Option R} {B : Option R}
  (hend : ∀ n, F (n + 1) l.length = B)
  (hstep : ∀ n i (hi : i < l.length), F (n + 1) i = if p l[i] then A i else F n (i + 1)) :
  ∀ (k i : Nat), i + k = l.length -> F (k + 1) i = match findP p (l.drop i) with
   |some j => A (i + j)
   |none => B
 |0, i, hk => by
  have e : i = l.length := by omega
  subst e
  rw [hend 0, List.drop_length]
  rfl
 |k + 1, i, hk => by
  have hi : i < l.length := by omega
  rw [List.drop_eq_getElem_cons hi, hstep (k + 1) i hi]
  simp only [findP]
  cases p l[i] with
  |true => rfl
  |false =>
   simp only [Bool.false_eq_true, if_false]
   rw [scan_run hend hstep k (i + 1) (by omega)]
   cases findP p (List.drop (i + 1) l) with
   |none => rfl
   |some j =>
    show A (i + 1 + j) = A (i + (j + 1))
    congr 1
    omega

theorem scan_all {R α : Type} {F : Nat -> Nat -> Option R} (p : α -> Bool) {l : List α} {A : Nat -> Option R} {B : Option R}
  (hend : ∀ n, F (n + 1) l.length = B)
  (hstep : ∀ n i (hi : i < l.length), F (n + 1) i = if p l[i] then A i else F n (i + 1)) :
  F (l.length + 1) 0 = match findP p l with
   |some j => A j
   |none => B := by
 have := scan_run hend hstep l.length 0 (by omega)
 simpa using this

theorem findP_none {α : Type} {p : α -> Bool} {l : List α} : findP p l = none ↔ ∀ x ∈ l, p x = false := by
 induction l with
 |nil => simp [findP]
 |cons x xs ih =>
  simp only [findP]
  cases h : p x with
  |true => simp [h]
  |false => simp [h, ih]

theorem findP_congr {α : Type} {p q : α -> Bool} {l : List α} (h : ∀ x ∈ l, p x = q x) : findP p l = findP q l := by
 induction l with
 |nil => rfl
 |cons x xs ih =>
  simp only [findP]
  rw [h x (by simp), ih fun y hy => h y (by simp [hy])]

/-! ### With enough steps -/

def Reach {R : Type} (F : Nat -> Option R) (v : Option R) : Prop := ∃ N, ∀ m, N ≤ m -> F m = v

theorem Reach.now {R : Type} {F : Nat -> Option R} {v : Option R} (h : ∀ m, F (m + 1) = v) : Reach F v :=
 ⟨1, fun m hm => by obtain ⟨m, rfl⟩ := Nat.exists_eq_succ_of_ne_zero (show m ≠ 0 by omega); exact h m⟩
theorem Reach.step {R : Type} {F G : Nat -> Option R} {v : Option R} (h : ∀ m, F (m + 1) = G m) (k : Reach G v) : Reach F v := by
 obtain ⟨N, k⟩ := k
 exact ⟨N + 1, fun m hm => by obtain ⟨m, rfl⟩ := Nat.exists_eq_succ_of_ne_zero (show m ≠ 0 by omega); exact (h m).trans (k m (by omega))⟩
theorem Reach.same {R : Type} {F G : Nat -> Option R} {v : Option R} (h : ∀ m, F m = G m) (k : Reach G v) : Reach F v := by
 obtain ⟨N, k⟩ := k
 exact ⟨N, fun m hm => (h m).trans (k m hm)⟩
theorem Reach.get {R : Type} {F : Nat -> Option R} {v : Option R} (h : Reach F v) : ∃ n, F n = v := by
 obtain ⟨N, h⟩ := h
 exact ⟨N, h N (Nat.le_refl N)⟩

noncomputable def evl {R : Type} (F : Nat -> Option R) : Option R := @dite _ (∃ v, Reach F v) (Classical.propDecidable _) (fun h => Classical.choose h) fun _ => none

theorem Reach.unique {R : Type} {F : Nat -> Option R} {u v : Option R} (h : Reach F u) (k : Reach F v) : u = v := by
 obtain ⟨M, h⟩ := h
 obtain ⟨N, k⟩ := k
 exact (h (max M N) (Nat.le_max_left _ _)).symm.trans (k (max M N) (Nat.le_max_right _ _))

theorem evl_eq {R : Type} {F : Nat -> Option R} {v : Option R} (h : Reach F v) : evl F = v := by
 unfold evl
 rw [dif_pos ⟨v, h⟩]
 exact (Classical.choose_spec (⟨v, h⟩ : ∃ v, Reach F v)).unique h

theorem evl_ok {R : Type} {F : Nat -> Option R} {r : R} (h : evl F = some r) : ∃ n, F n = some r := by
 unfold evl at h
 split at h
 ·rename_i hv
  have := Classical.choose_spec hv
  rw [h] at this
  exact this.get
 ·cases h

theorem Reach.of_eq {R : Type} {F : Nat -> Option R} {u v : Option R} (h : Reach F u) (e : u = v) : Reach F v := e ▸ h

end Go.Ev
