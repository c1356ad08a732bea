/- What the search over pairs of states finds. -/
import Derived.Test.YtjjdadbbiciigaaGreatDoorTrEvBfs
namespace Go.Ev
set_option linter.unusedVariables false
set_option linter.unusedSimpArgs false

def Duo.go (D : Duo) (p : Int × Int) (w : List Int) : Int × Int := w.foldl D.nxt p
def Duo.syP (D : Duo) : Int × Int -> List Int -> Bool
 |_, [] => false
 |p, x :: w => D.sy p x || D.syP (D.nxt p x) w
def Duo.tel (D : Duo) (p : Int × Int) (w : List Int) : Bool := D.syP p w || D.st (D.go p w)

theorem go_snoc (D : Duo) (p : Int × Int) (w : List Int) (x : Int) : D.go p (w ++ [x]) = D.nxt (D.go p w) x := by
 unfold Duo.go
 rw [List.foldl_append]
 rfl
theorem syP_snoc (D : Duo) (x : Int) : ∀ (w : List Int) (p : Int × Int), D.syP p (w ++ [x]) = (D.syP p w || D.sy (D.go p w) x)
 |[], p => by
  show (D.sy p x || false) = (false || D.sy p x)
  rw [Bool.or_false, Bool.false_or]
 |y :: w, p => by
  show (D.sy p y || D.syP (D.nxt p y) (w ++ [x])) = _
  rw [syP_snoc D x w, ← Bool.or_assoc]
  rfl

structure Inv2 (D : Duo) (s : Int × Int) (i x : Nat) (L : List PW) : Prop where
 go : ∀ e ∈ L, D.go s e.2 = e.1
 val : ∀ e ∈ L, validW D.K e.2
 up : ∀ j m, j < m -> m < L.length -> rankS D.K (L.getD j pw0).2 < rankS D.K (L.getD m pw0).2
 last : ∀ e ∈ L, rankS D.K e.2 ≤ rankS D.K (L.getD i pw0).2 * D.K + x
 done : ∀ (j : Nat) (y : Int), j < L.length -> 0 ≤ y ∧ y < D.K -> (j < i ∨ j = i ∧ y < x) →
  D.sy (L.getD j pw0).1 y = false ∧ ∃ m, m < L.length ∧ (L.getD m pw0).1 = D.nxt (L.getD j pw0).1 y ∧ rankS D.K (L.getD m pw0).2 ≤ rankS D.K (L.getD j pw0).2 * D.K + y + 1

theorem Inv2.start (D : Duo) (s : Int × Int) : Inv2 D s 0 0 [(s, [])] := by
 refine ⟨?_, ?_, ?_, ?_, ?_⟩
 ·intro e he; rw [List.mem_singleton] at he; subst he; rfl
 ·intro e he; rw [List.mem_singleton] at he; subst he; intro x hx; cases hx
 ·intro j m h1 h2; simp at h2; omega
 ·intro e he
  rw [List.mem_singleton] at he
  subst he
  show (0 : Int) ≤ 0 * D.K + 0
  omega
 ·intro j y _ hy h
  rcases h with h | ⟨_, h⟩ <;> omega

theorem Inv2.cover {D : Duo} {s : Int × Int} {i x : Nat} {L : List PW} (hK : 1 ≤ D.K) (I : Inv D s L) (J : Inv2 D s i x L) (T : Int)
  (H : ∀ (j : Nat) (y : Int), j < L.length -> 0 ≤ y ∧ y < D.K -> rankS D.K (L.getD j pw0).2 * D.K + y + 1 ≤ T -> (j < i ∨ j = i ∧ y < x)) :
  ∀ u : List Int, validW D.K u -> rankS D.K u ≤ T -> D.syP s u = false ∧ ∃ j, j < L.length ∧ (L.getD j pw0).1 = D.go s u ∧ rankS D.K (L.getD j pw0).2 ≤ rankS D.K u := by
 refine snoc_ind ?_ ?_
 ·intro _ _
  exact ⟨rfl, 0, I.pos, by rw [I.head]; rfl, by rw [I.head]; exact Int.le_refl _⟩
 ·intro u y ih hv hr
  have hvu : validW D.K u := fun z hz => hv z (by simp [hz])
  have hy := hv y (by simp)
  rw [rank_snoc] at hr
  have h0 := rank_nonneg hK hvu
  have h1 : rankS D.K u * 1 ≤ rankS D.K u * D.K := Int.mul_le_mul_of_nonneg_left hK h0
  obtain ⟨e1, j, hj, e2, e3⟩ := ih hvu (by omega)
  have h2 : rankS D.K (L.getD j pw0).2 * D.K ≤ rankS D.K u * D.K := mul_le e3 (by omega)
  obtain ⟨d1, m, hm, d2, d3⟩ := J.done j y hj hy (H j y hj hy (by omega))
  refine ⟨?_, m, hm, ?_, ?_⟩
  ·rw [syP_snoc, e1, ← e2, d1]; rfl
  ·rw [go_snoc, d2, e2]
  ·rw [rank_snoc]; omega

theorem Inv2.next {D : Duo} {s : Int × Int} {i x : Nat} {L : List PW} (J : Inv2 D s i x L) (hK : 1 ≤ D.K) (hx : D.K ≤ x) (hx2 : (x : Int) ≤ D.K) (hi : i + 1 < L.length) : Inv2 D s (i + 1) 0 L := by
 refine ⟨J.go, J.val, J.up, ?_, ?_⟩
 ·intro e he
  have h1 := J.last e he
  have h2 := J.up i (i + 1) (by omega) hi
  have h3 : (rankS D.K (L.getD i pw0).2 + 1) * D.K ≤ rankS D.K (L.getD (i + 1) pw0).2 * D.K := mul_le (by omega) (by omega)
  rw [Int.add_mul, Int.one_mul] at h3
  omega
 ·intro j y hj hy h
  refine J.done j y hj hy ?_
  omega

theorem Inv2.known {D : Duo} {s : Int × Int} {i x : Nat} {L : List PW} (J : Inv2 D s i x L) (hi : i < L.length) (hx : (x : Int) < D.K) (h1 : D.sy (L.getD i pw0).1 x = false)
  (h2 : known L (D.nxt (L.getD i pw0).1 x) = true) : Inv2 D s i (x + 1) L := by
 refine ⟨J.go, J.val, J.up, ?_, ?_⟩
 ·intro e he
  have := J.last e he
  omega
 ·intro j y hj hy h
  by_cases c : j = i ∧ y = x
  ·obtain ⟨rfl, rfl⟩ := c
   obtain ⟨e, he, h3⟩ := List.mem_map.1 (known_iff.1 h2)
   obtain ⟨m, hm, e1⟩ := List.getElem_of_mem he
   refine ⟨h1, m, hm, ?_, ?_⟩
   ·rw [getD_of pw0 hm, e1, h3]
   ·have := J.last e he
    rw [getD_of pw0 hm, e1]
    omega
  ·exact J.done j y hj hy (by omega)

theorem Inv2.push {D : Duo} {s : Int × Int} {i x : Nat} {L : List PW} (J : Inv2 D s i x L) (hi : i < L.length) (hx : (x : Int) < D.K) (h1 : D.sy (L.getD i pw0).1 x = false) :
  Inv2 D s i (x + 1) (L ++ [(D.nxt (L.getD i pw0).1 x, (L.getD i pw0).2 ++ [(x : Int)])]) := by
 have hm : L.getD i pw0 ∈ L := getD_mem hi
 have old : ∀ j, j < L.length -> (L ++ [(D.nxt (L.getD i pw0).1 x, (L.getD i pw0).2 ++ [(x : Int)])]).getD j pw0 = L.getD j pw0 := fun j hj => by rw [getD_snoc, if_pos hj]
 have new : (L ++ [(D.nxt (L.getD i pw0).1 x, (L.getD i pw0).2 ++ [(x : Int)])]).getD L.length pw0 = (D.nxt (L.getD i pw0).1 x, (L.getD i pw0).2 ++ [(x : Int)]) := by
  rw [getD_snoc, if_neg (by omega), if_pos rfl]
 have hl : (L ++ [(D.nxt (L.getD i pw0).1 x, (L.getD i pw0).2 ++ [(x : Int)])]).length = L.length + 1 := by simp
 refine ⟨?_, ?_, ?_, ?_, ?_⟩
 ·intro e he
  rcases List.mem_append.1 he with he | he
  ·exact J.go e he
  ·rw [List.mem_singleton] at he
   subst he
   show D.go s ((L.getD i pw0).2 ++ [(x : Int)]) = _
   rw [go_snoc, J.go _ hm]
 ·intro e he
  rcases List.mem_append.1 he with he | he
  ·exact J.val e he
  ·rw [List.mem_singleton] at he
   subst he
   intro z hz
   rcases List.mem_append.1 hz with hz | hz
   ·exact J.val _ hm z hz
   ·rw [List.mem_singleton] at hz
    subst hz
    omega
 ·intro j m h2 h3
  rw [hl] at h3
  rw [old j (by omega)]
  by_cases c : m < L.length
  ·rw [old m c]
   exact J.up j m h2 c
  ·have : m = L.length := by omega
   subst this
   rw [new, rank_snoc]
   have := J.last _ (getD_mem (l := L) (i := j) (d := pw0) (by omega))
   omega
 ·intro e he
  rw [old i hi]
  rcases List.mem_append.1 he with he | he
  ·have := J.last e he
   omega
  ·rw [List.mem_singleton] at he
   subst he
   rw [rank_snoc]
   omega
 ·intro j y hj hy h
  rw [hl] at hj
  have hj' : j < L.length := by omega
  rw [old j hj']
  by_cases c : j = i ∧ y = x
  ·obtain ⟨rfl, rfl⟩ := c
   refine ⟨h1, L.length, by omega, ?_, ?_⟩
   ·rw [new]
   ·rw [new, rank_snoc]
    omega
  ·obtain ⟨d1, m, d2, d3, d4⟩ := J.done j y hj' hy (by omega)
   exact ⟨d1, m, by omega, by rw [old m d2]; exact d3, by rw [old m d2]; exact d4⟩

structure Found (D : Duo) (s : Int × Int) (r : Bool × List Int) : Prop where
 yes : r.1 = true -> validW D.K r.2 ∧ D.tel s r.2 = true ∧ ∀ u, validW D.K u -> D.tel s u = true -> rankS D.K r.2 ≤ rankS D.K u
 no : r.1 = false -> r.2 = [] ∧ ∀ u, validW D.K u -> D.tel s u = false

theorem bfs_found {D : Duo} {s : Int × Int} (F : D.Fine) : ∀ (n i x : Nat) (L : List PW) (r : Bool × List Int), bfs D n i x L = some r -> Inv D s L -> Inv2 D s i x L -> i < L.length -> (x : Int) ≤ D.K -> Found D s r
 |0, _, _, _, _, h, _, _, _, _ => by cases h
 |n + 1, i, x, L, r, h, I, J, hi, hx => by
  obtain ⟨O, A⟩ := F.a
  have hK := A.fK
  have hm : L.getD i pw0 ∈ L := getD_mem hi
  unfold bfs at h
  by_cases c : (x : Int) < D.K
  ·rw [if_pos c] at h
   cases h1 : D.sy (L.getD i pw0).1 x || D.st (D.nxt (L.getD i pw0).1 x) with
   |true =>
    rw [h1, if_pos rfl] at h
    cases h
    refine ⟨fun _ => ⟨?_, ?_, ?_⟩, fun h => by cases h⟩
    ·intro z hz
     rcases List.mem_append.1 hz with hz | hz
     ·exact J.val _ hm z hz
     ·rw [List.mem_singleton] at hz
      subst hz
      omega
    ·unfold Duo.tel
     rw [syP_snoc, go_snoc, J.go _ hm, Bool.or_assoc, h1, Bool.or_true]
    ·intro u hu ht
     refine Int.not_lt.1 fun hlt => ?_
     rw [rank_snoc] at hlt
     obtain ⟨e1, j, hj, e2, e3⟩ := J.cover (by omega) I (rankS D.K (L.getD i pw0).2 * D.K + x) (fun j y hj hy h => by
      rcases Nat.lt_trichotomy j i with g | g | g
      ·exact .inl g
      ·subst g; exact .inr ⟨rfl, by omega⟩
      ·exfalso
       have h2 := J.up i j g hj
       have h3 : (rankS D.K (L.getD i pw0).2 + 1) * D.K ≤ rankS D.K (L.getD j pw0).2 * D.K := mul_le (by omega) (by omega)
       rw [Int.add_mul, Int.one_mul] at h3
       omega) u hu (by omega)
     unfold Duo.tel at ht
     rw [e1, ← e2, I.st _ (getD_mem hj)] at ht
     cases ht
   |false =>
    rw [h1, if_neg (by decide)] at h
    rw [Bool.or_eq_false_iff] at h1
    cases h2 : known L (D.nxt (L.getD i pw0).1 x) with
    |true => rw [h2, if_pos rfl] at h; exact bfs_found F n i (x + 1) L r h I (J.known hi c h1.1 h2) hi (by omega)
    |false => rw [h2, if_neg (by decide)] at h; exact bfs_found F n i (x + 1) _ r h (I.push F hi ⟨by omega, c⟩ h1.2 h2) (J.push hi c h1.1) (by simp; omega) (by omega)
  ·rw [if_neg c] at h
   by_cases h3 : i + 1 < L.length
   ·rw [if_pos h3] at h
    exact bfs_found F n (i + 1) 0 L r h I (J.next (by omega) (by omega) hx h3) h3 (by omega)
   ·rw [if_neg h3] at h
    cases h
    refine ⟨fun h => (by cases h), fun _ => ⟨rfl, ?_⟩⟩
    intro u hu
    obtain ⟨e1, j, hj, e2, e3⟩ := J.cover (by omega) I (rankS D.K u) (fun j y hj hy h => by omega) u hu (Int.le_refl _)
    unfold Duo.tel
    rw [e1, ← e2, I.st _ (getD_mem hj)]
    rfl

theorem search_found {D : Duo} (F : D.Fine) {s : Int × Int} (hs : D.inn s) : Found D s (searchS D s) := by
 obtain ⟨O, A⟩ := F.a
 have hK := A.fK
 cases h : D.st s with
 |true =>
  unfold searchS
  rw [if_pos h]
  refine ⟨fun _ => ⟨fun x hx => (by cases hx), ?_, ?_⟩, fun h => by cases h⟩
  ·unfold Duo.tel
   show (false || D.st s) = true
   rw [h]; rfl
  ·intro u hu _
   exact rank_nonneg (by omega) hu
 |false => exact bfs_found F _ _ _ _ _ (searchS_run F hs h) (Inv.start hs h) (Inv2.start D s) (by simp) (by omega)

/-! ### Words that tell apart, by what is said -/

def outsS (K : Int) (nx ou : List Int) : Int -> List Int -> List Int
 |_, [] => []
 |s, x :: w => ou.getD (s * K + x).toNat 0 :: outsS K nx ou (nx.getD (s * K + x).toNat 0) w

theorem fold_goS {k K : Int} {nx ou : List Int} : ∀ (w : List Int) (s : Int) (acc : List Int), w.foldl (goS k K nx ou) (s, acc) =
  (w.foldl (fun s x => nx.getD (s * K + x).toNat 0) s, if k = 2 then acc ++ outsS K nx ou s w else acc)
 |[], s, acc => by
  show (s, acc) = (s, _)
  split <;> simp [outsS]
 |x :: w, s, acc => by
  show w.foldl (goS k K nx ou) (nx.getD (s * K + x).toNat 0, if k = 2 then acc ++ [ou.getD (s * K + x).toNat 0] else acc) = _
  rw [fold_goS w]
  by_cases h : k = 2
  ·simp only [if_pos h]
   simp [outsS]
  ·simp only [if_neg h]
   rfl

theorem go_fst (D : Duo) : ∀ (w : List Int) (p : Int × Int), D.go p w = (w.foldl (fun s x => D.nx.getD (s * D.K + x).toNat 0) p.1, w.foldl (fun s x => D.nx'.getD (s * D.K + x).toNat 0) p.2)
 |[], p => rfl
 |x :: w, p => by
  show D.go (D.nxt p x) w = _
  rw [go_fst D w]
  rfl

theorem outs_tel {D : Duo} (h : D.k = 2) : ∀ (w : List Int) (p : Int × Int), outsS D.K D.nx D.ou p.1 w = outsS D.K D.nx' D.ou' p.2 w ↔ D.syP p w = false
 |[], p => ⟨fun _ => rfl, fun _ => rfl⟩
 |x :: w, p => by
  show (_ :: _ = _ :: _) ↔ (D.sy p x || D.syP (D.nxt p x) w) = false
  rw [List.cons.injEq, Bool.or_eq_false_iff, ← outs_tel h w]
  refine and_congr ?_ Iff.rfl
  unfold Duo.sy
  rw [h]
  simp

theorem end_tel {D : Duo} (h : D.k = 1 ∨ D.k = 2) (p : Int × Int) (w : List Int) : (endS D.k D.K D.nx D.ou p.1 w).2 = (endS D.k D.K D.nx' D.ou' p.2 w).2 ↔ D.tel p w = false := by
 unfold endS Duo.tel
 dsimp only
 rw [fold_goS, fold_goS, go_fst, Bool.or_eq_false_iff]
 rcases h with h | h
 ·have hs : D.syP p w = false := by
   have : ∀ (w : List Int) (p : Int × Int), D.syP p w = false := fun w => by
    induction w with
    |nil => intro p; rfl
    |cons x w ih =>
     intro p
     show (D.sy p x || D.syP (D.nxt p x) w) = false
     rw [ih, Bool.or_false]
     unfold Duo.sy
     rw [h]
     rfl
   exact this w p
  rw [if_pos h, if_pos h]
  unfold Duo.st
  simp [h, hs]
 ·have h1 : ¬ D.k = 1 := by omega
  simp only [if_neg h1, if_pos h, List.nil_append]
  rw [outs_tel h]
  unfold Duo.st
  simp [h]

/-! ### What is said may be said -/

theorem outs_len {K : Int} {nx ou : List Int} : ∀ (w : List Int) (s : Int), (outsS K nx ou s w).length = w.length
 |[], _ => rfl
 |x :: w, s => by simp [outsS, outs_len w]

theorem outs_in {k K O N : Int} {nx ou : List Int} (F : Fine k K O N nx ou) (h : k = 2) : ∀ (w : List Int) (s : Int), 0 ≤ s ∧ s < N -> validW K w -> ∀ y ∈ outsS K nx ou s w, 0 ≤ y ∧ y < O
 |[], _, _, _, y, hy => by cases hy
 |x :: w, s, hs, hw, y, hy => by
  have hx := hw x (by simp)
  have h1 := idx_in hs hx
  have h2 := F.fou2 h
  have h3 := F.fnx
  simp only [outsS, List.mem_cons] at hy
  rcases hy with rfl | hy
  ·rw [getD_of 0 (by omega)]
   exact F.fous _ (List.getElem_mem _)
  ·refine outs_in F h w _ ?_ (fun z hz => hw z (by simp [hz])) y hy
   rw [getD_of 0 (by omega)]
   exact F.fnxs _ (List.getElem_mem _)

theorem dest_in {k K O N : Int} {nx ou : List Int} (F : Fine k K O N nx ou) : ∀ (w : List Int) (s : Int), 0 ≤ s ∧ s < N -> validW K w →
  0 ≤ w.foldl (fun s x => nx.getD (s * K + x).toNat 0) s ∧ w.foldl (fun s x => nx.getD (s * K + x).toNat 0) s < N
 |[], _, hs, _ => hs
 |x :: w, s, hs, hw => by
  have hx := hw x (by simp)
  have h1 := idx_in hs hx
  have h3 := F.fnx
  refine dest_in F w _ ?_ (fun z hz => hw z (by simp [hz]))
  show 0 ≤ nx.getD (s * K + x).toNat 0 ∧ nx.getD (s * K + x).toNat 0 < N
  rw [getD_of 0 (by omega)]
  exact F.fnxs _ (List.getElem_mem _)

theorem end_out {k K O N : Int} {nx ou : List Int} (F : Fine k K O N nx ou) {s : Int} (hs : 0 ≤ s ∧ s < N) {w : List Int} (hw : validW K w) :
  (k = 1 -> (endS k K nx ou s w).2.length = 1 ∧ findP (outside 2) (endS k K nx ou s w).2 = none) ∧ (k = 2 -> (endS k K nx ou s w).2.length = w.length ∧ findP (outside O) (endS k K nx ou s w).2 = none) := by
 have out : ∀ {n y : Int}, 0 ≤ y ∧ y < n -> outside n y = false := fun h => by
  unfold outside
  rw [decide_eq_false (by omega), decide_eq_false (by omega)]
  rfl
 unfold endS
 dsimp only
 rw [fold_goS]
 constructor
 ·intro h
  rw [if_pos h]
  refine ⟨rfl, findP_none.2 fun x hx => ?_⟩
  rw [List.mem_singleton] at hx
  subst hx
  have hd := dest_in F w s hs hw
  have h1 := F.fou1 h
  have h2 := F.fO2 h
  refine out ?_
  dsimp only
  rw [getD_of 0 (by omega), ← h2]
  exact F.fous _ (List.getElem_mem _)
 ·intro h
  have hn : ¬ k = 1 := by omega
  simp only [if_neg hn, if_pos h, List.nil_append]
  exact ⟨outs_len w s, findP_none.2 fun x hx => out (outs_in F h w s hs hw x hx)⟩

end Go.Ev
