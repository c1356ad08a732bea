/- What the search over pairs of states finds. -/
import Derived.Test.YtjjdadbbiciigaaGreatDoorTkEvBfs
namespace Go.Ev
set_option linter.unusedVariables false
set_option linter.unusedSimpArgs false

def Duo.go (D : Duo) (p : Int × Int) (w : List Int) : Int × Int := w.foldl D.nxt p
def Duo.syP (D : Duo) : Int × Int -> List Int -> Bool
 |_, [] => false
 |p, x :: w => D.sy p x || D.syP (D.nxt p x) w
def Duo.tel (D : Duo) (p : Int × Int) (w : List Int) : Bool := D.syP p w || D.st (D.go p w)

theorem go_snoc (D : Duo) (p : Int × Int) (w : List Int) (x : Int) : D.go p (w ++ [x]) = D.nxt (D.go p w) x := by
 unfold Duo.go
 rw [List.foldl_append]
 rfl
structure Inv2 (D : Duo) (s : Int × Int) (i x : Nat) (L : List PW) : Prop where
 go : ∀ e ∈ L, D.go s e.2 = e.1
 val : ∀ e ∈ L, validW D.K e.2
 up : ∀ j m, j < m -> m < L.length -> rankS D.K (L.getD j pw0).2 < rankS D.K (L.getD m pw0).2
 last : ∀ e ∈ L, rankS D.K e.2 ≤ rankS D.K (L.getD i pw0).2 * D.K + x
 done : ∀ (j : Nat) (y : Int), j < L.length -> 0 ≤ y ∧ y < D.K -> (j < i ∨ j = i ∧ y < x) →
  D.sy (L.getD j pw0).1 y = false ∧ ∃ m, m < L.length ∧ (L.getD m pw0).1 = D.nxt (L.getD j pw0).1 y ∧ rankS D.K (L.getD m pw0).2 ≤ rankS D.K (L.getD j pw0).2 * D.K + y + 1

theorem Inv2.start (D : Duo) (s : Int × Int) : Inv2 D s 0 0 [(s, [])] := by
 refine ⟨?_, ?_, ?_, ?_, ?_⟩
 ·intro e he; rw [List.mem_singleton] at he; subst he; rfl
 ·intro e he; rw [List.mem_singleton] at he; subst he; intro x hx; cases hx
 ·intro j m h1 h2; simp at h2; omega
 ·intro e he
  rw [List.mem_singleton] at he
  subst he
  show (0 : Int) ≤ 0 * D.K + 0
  omega
 ·intro j y _ hy h
  rcases h with h | ⟨_, h⟩ <;> omega

theorem Inv2.next {D : Duo} {s : Int × Int} {i x : Nat} {L : List PW} (J : Inv2 D s i x L) (hK : 1 ≤ D.K) (hx : D.K ≤ x) (hx2 : (x : Int) ≤ D.K) (hi : i + 1 < L.length) : Inv2 D s (i + 1) 0 L := by
 refine ⟨J.go, J.val, J.up, ?_, ?_⟩
 ·intro e he
  have h1 := J.last e he
  have h2 := J.up i (i + 1) (by omega) hi
  have h3 : (rankS D.K (L.getD i pw0).2 + 1) * D.K ≤ rankS D.K (L.getD (i + 1) pw0).2 * D.K := mul_le (by omega) (by omega)
  rw [Int.add_mul, Int.one_mul] at h3
  omega
 ·intro j y hj hy h
  refine J.done j y hj hy ?_
  omega

theorem Inv2.known {D : Duo} {s : Int × Int} {i x : Nat} {L : List PW} (J : Inv2 D s i x L) (hi : i < L.length) (hx : (x : Int) < D.K) (h1 : D.sy (L.getD i pw0).1 x = false)
  (h2 : known L (D.nxt (L.getD i pw0).1 x) = true) : Inv2 D s i (x + 1) L := by
 refine ⟨J.go, J.val, J.up, ?_, ?_⟩
 ·intro e he
  have := J.last e he
  omega
 ·intro j y hj hy h
  by_cases c : j = i ∧ y = x
  ·obtain ⟨rfl, rfl⟩ := c
   obtain ⟨e, he, h3⟩ := List.mem_map.1 (known_iff.1 h2)
   obtain ⟨m, hm, e1⟩ := List.getElem_of_mem he
   refine ⟨h1, m, hm, ?_, ?_⟩
   ·rw [getD_of pw0 hm, e1, h3]
   ·have := J.last e he
    rw [getD_of pw0 hm, e1]
    omega
  ·exact J.done j y hj hy (by omega)

theorem Inv2.push {D : Duo} {s : Int × Int} {i x : Nat} {L : List PW} (J : Inv2 D s i x L) (hi : i < L.length) (hx : (x : Int) < D.K) (h1 : D.sy (L.getD i pw0).1 x = false) :
  Inv2 D s i (x + 1) (L ++ [(D.nxt (L.getD i pw0).1 x, (L.getD i pw0).2 ++ [(x : Int)])]) := by
 have hm : L.getD i pw0 ∈ L := getD_mem hi
 have old : ∀ j, j < L.length -> (L ++ [(D.nxt (L.getD i pw0).1 x, (L.getD i pw0).2 ++ [(x : Int)])]).getD j pw0 = L.getD j pw0 := fun j hj => by rw [getD_snoc, if_pos hj]
 have new : (L ++ [(D.nxt (L.getD i pw0).1 x, (L.getD i pw0).2 ++ [(x : Int)])]).getD L.length pw0 = (D.nxt (L.getD i pw0).1 x, (L.getD i pw0).2 ++ [(x : Int)]) := by
  rw [getD_snoc, if_neg (by omega), if_pos rfl]
 have hl : (L ++ [(D.nxt (L.getD i pw0).1 x, (L.getD i pw0).2 ++ [(x : Int)])]).length = L.length + 1 := by simp
 refine ⟨?_, ?_, ?_, ?_, ?_⟩
 ·intro e he
  rcases List.mem_append.1 he with he | he
  ·exact J.go e he
  ·rw [List.mem_singleton] at he
   subst he
   show D.go s ((L.getD i pw0).2 ++ [(x : Int)]) = _
   rw [go_snoc, J.go _ hm]
 ·intro e he
  rcases List.mem_append.1 he with he | he
  ·exact J.val e he
  ·rw [List.mem_singleton] at he
   subst he
   intro z hz
   rcases List.mem_append.1 hz with hz | hz
   ·exact J.val _ hm z hz
   ·rw [List.mem_singleton] at hz
    subst hz
    omega
 ·intro j m h2 h3
  rw [hl] at h3
  rw [old j (by omega)]
  by_cases c : m < L.length
  ·rw [old m c]
   exact J.up j m h2 c
  ·have : m = L.length := by omega
   subst this
   rw [new, rank_snoc]
   have := J.last _ (getD_mem (l := L) (i := j) (d := pw0) (by omega))
   omega
 ·intro e he
  rw [old i hi]
  rcases List.mem_append.1 he with he | he
  ·have := J.last e he
   omega
  ·rw [List.mem_singleton] at he
   subst he
   rw [rank_snoc]
   omega
 ·intro j y hj hy h
  rw [hl] at hj
  have hj' : j < L.length := by omega
  rw [old j hj']
  by_cases c : j = i ∧ y = x
  ·obtain ⟨rfl, rfl⟩ := c
   refine ⟨h1, L.length, by omega, ?_, ?_⟩
   ·rw [new]
   ·rw [new, rank_snoc]
    omega
  ·obtain ⟨d1, m, d2, d3, d4⟩ := J.done j y hj' hy (by omega)
   exact ⟨d1, m, by omega, by rw [old m d2]; exact d3, by rw [old m d2]; exact d4⟩

structure Found (D : Duo) (s : Int × Int) (r : Bool × List Int) : Prop where
 yes : r.1 = true -> validW D.K r.2 ∧ D.tel s r.2 = true ∧ ∀ u, validW D.K u -> D.tel s u = true -> rankS D.K r.2 ≤ rankS D.K u
 no : r.1 = false -> r.2 = [] ∧ ∀ u, validW D.K u -> D.tel s u = false

/-! ### Words that tell apart, by what is said -/

/-! ### What is said may be said -/

end Go.Ev
