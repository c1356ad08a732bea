/- Regions that draw their order: the condition on the world hangs on what has come up. -/
import Derived.OrdersHeld
namespace Go.Ev
set_option linter.unusedVariables false

section
variable {P : Program} {ops : Array Oper} {Q : Exit -> Act -> World -> Prop} {md : Region.Mode} {S : Array Bool -> World -> Prop}

def wpAnyL (P : Program) (md : Region.Mode) (ops : Array Oper) (Q : Exit -> Act -> World -> Prop) (S : Array Bool -> World -> Prop) : Nat -> Array Bool -> Act -> World -> Prop
 |0, L, a, w => Region.ready md ops L = [] ∧ Q .normal a w
 |n + 1, L, a, w => (Region.ready md ops L = [] -> Q .normal a w) ∧
  ∀ i ∈ Region.ready md ops L, wpOp P ops Q i (fun a' w' => S (L.setIfInBounds i true) w' ∧ wpAnyL P md ops Q S n (L.setIfInBounds i true) a' w') a w

theorem wpAny_of_L : ∀ (n : Nat) (L : Array Bool) (a : Act) (w : World), wpAnyL P md ops Q S n L a w -> wpAny P md ops Q n L a w
 |0, _, _, _, h => h
 |n + 1, _, _, _, h => ⟨h.1, fun i hi => wpOp_mono (fun a' w' h' => wpAny_of_L n _ a' w' h'.2) (h.2 i hi)⟩

theorem wpAnyL_done {L : Array Bool} {a : Act} {w : World} (hr : Region.ready md ops L = []) (h : Q .normal a w) : ∀ n, wpAnyL P md ops Q S n L a w
 |0 => ⟨hr, h⟩
 |_ + 1 => ⟨fun _ => h, by rw [hr]; simp⟩

def Shut (md : Region.Mode) (ops : Array Oper) (L : Array Bool) : Prop :=
 ∀ j o, ops[j]? = some o -> L.getD j false = true -> ∀ e ∈ o.after, Region.binds md e = true -> L.getD e.on false = true

theorem Shut.set {L : Array Bool} {i : Nat} (h : Shut md ops L) (hi : i ∈ Region.ready md ops L) : Shut md ops (L.setIfInBounds i true) := by
 intro j o ho hj e he hb
 by_cases hij : i = j
 ·subst hij
  obtain ⟨_, o', ho', hall⟩ := mem_ready.1 hi
  rw [ho] at ho'
  obtain rfl := Option.some.inj ho'
  exact getD_set_true (hall e he hb)
 ·rw [getD_set_ne false hij] at hj
  exact getD_set_true (h j o ho hj e he hb)

def Before (md : Region.Mode) (ops : Array Oper) (S : Array Bool -> World -> Prop) (i : Nat) (w : World) : Prop :=
 ∃ L, Shut md ops L ∧ L.getD i true = false ∧ S L w

theorem wpAnyL_first {i : Nat} {oi : Oper} {v : Value} (hi : ops[i]? = some oi) (hsel : ∀ (j : Nat) (o : Oper) cs b, ops[j]? = some o -> o.op ≠ .select cs b)
  (hQ : ∀ c a w, Q (.panic c) (a.put oi.dst v) w -> Q (.panic c) a w) (hS1 : ∀ L w, S L w -> S (L.setIfInBounds i true) w) (hS2 : ∀ L w, S (L.setIfInBounds i true) w -> S L w) :
  ∀ (n : Nat) (L : Array Bool) (a : Act) (w : World),
   (∀ j oj, ops[j]? = some oj -> j ≠ i -> L.getD j true = false -> (∀ e ∈ oj.after, Region.binds md e = true -> e.on ≠ i) -> oi.apart ops oj = true) →
   i ∈ Region.ready md ops L -> Shut md ops L -> YieldsIf P ops (Before md ops S i) oi v a -> S L w →
   wpAnyL P md ops Q S n (L.setIfInBounds i true) (a.put oi.dst v) w -> wpAnyL P md ops Q S (n + 1) L a w
 |0, L, a, w, hfree, hr, hL, hy, hS, H => by
  have h0 : L.getD i true = false := (mem_ready.1 hr).1
  refine ⟨fun h => (by rw [h] at hr; cases hr), fun j hj => ?_⟩
  by_cases hji : j = i
  ·subst hji
   exact hy.wpOp hi ⟨L, hL, h0, hS⟩ ⟨hS1 L w hS, H⟩
  ·have := ready_mono hj hji
   rw [H.1] at this
   cases this
 |n + 1, L, a, w, hfree, hr, hL, hy, hS, H => by
  have h0 : L.getD i true = false := (mem_ready.1 hr).1
  refine ⟨fun h => (by rw [h] at hr; cases hr), fun j hj => ?_⟩
  by_cases hji : j = i
  ·subst hji
   exact hy.wpOp hi ⟨L, hL, h0, hS⟩ ⟨hS1 L w hS, H⟩
  ·have h1 := H.2 j (ready_mono hj hji)
   obtain ⟨hjun, oj, hoj, hall⟩ := mem_ready.1 hj
   have hnot : ∀ e ∈ oj.after, Region.binds md e = true -> e.on ≠ i := by
    intro e he hb heq
    have h3 := hall e he hb
    rw [heq] at h3
    rw [Array.getD_eq_getD_getElem?] at h0 h3
    cases hg : L[i]? with
    |none =>
     rw [hg] at h3
     cases h3
    |some b =>
     rw [hg] at h0 h3
     simp at h0 h3
     rw [h0] at h3
     cases h3
   have h2 := wpOp_putIf hoj (hfree j oj hoj hji hjun hnot) (fun cs b => hsel i oi cs b hi) (fun cs b => hsel j oj cs b hoj) hQ hy h1
   refine wpOp_mono (fun a' w' h3 => ?_) h2
   obtain ⟨h4, h5, h6⟩ := h3
   rw [Array.setIfInBounds_comm _ _ (Ne.symm hji)] at h5 h6
   have hSj := hS2 _ _ h5
   refine ⟨hSj, wpAnyL_first hi hsel hQ hS1 hS2 n _ a' w' ?_ (ready_mono hr (Ne.symm hji)) (hL.set hj) h4 hSj h6⟩
   intro k ok hk hki hun hno
   refine hfree k ok hk hki ?_ hno
   by_cases hjk : j = k
   ·subst hjk
    exact hjun
   ·rwa [getD_set_ne true hjk] at hun

end
end Go.Ev
