/- Machines of some states in their order; least machines; their one form. -/
import Derived.Test.YtbgggblbkknaoaaDoorEvMoore
namespace Go.Ev
set_option linter.unusedVariables false
set_option linter.unusedSimpArgs false

/-! ### All that is come to -/

def grow (D : Duo) : Nat → Nat → Nat → List PW → Option (List PW)
  | 0, _, _, _ => none
  | n + 1, i, x, L =>
    if (x : Int) < D.K then
      if known L (D.nxt (L.getD i pw0).1 x) then grow D n i (x + 1) L
      else grow D n i (x + 1) (L ++ [(D.nxt (L.getD i pw0).1 x, (L.getD i pw0).2 ++ [(x : Int)])])
    else if i + 1 < L.length then grow D n (i + 1) 0 L
    else some L
def growS (D : Duo) (s : Int × Int) : List PW := (grow D D.fuel 0 0 [(s, [])]).getD []

/-- No word tells. -/
def Quiet (D : Duo) (s : Int × Int) : Prop := ∀ v, validW D.K v → D.tel s v = false
theorem Quiet.at {D : Duo} {s : Int × Int} (Q : Quiet D s) {u : List Int} (hu : validW D.K u) : Quiet D (D.go s u) := fun v hv => by
  have := Q (u ++ v) (fun x hx => (List.mem_append.1 hx).elim (hu x) (hv x))
  rw [tel_app, Bool.or_eq_false_iff] at this
  exact this.2
theorem Quiet.st {D : Duo} {s : Int × Int} (Q : Quiet D s) : D.st s = false := by
  have := Q [] (fun x hx => by cases hx)
  unfold Duo.tel at this
  rw [Bool.or_eq_false_iff] at this
  exact this.2
theorem Quiet.sy {D : Duo} {s : Int × Int} (Q : Quiet D s) {x : Int} (hx : 0 ≤ x ∧ x < D.K) : D.sy s x = false ∧ Quiet D (D.nxt s x) := by
  constructor
  · have := Q [x] (fun y hy => by rw [List.mem_singleton] at hy; subst hy; exact hx)
    rw [tel_cons, Bool.or_eq_false_iff] at this
    exact this.1
  · intro v hv
    have := Q (x :: v) (fun y hy => (List.mem_cons.1 hy).elim (fun e => e ▸ hx) (hv y))
    rw [tel_cons, Bool.or_eq_false_iff] at this
    exact this.2

theorem grow_ends {D : Duo} {s : Int × Int} (F : D.Fine) (Q : Quiet D s) : ∀ (n i x : Nat) (L : List PW), Inv D s L → Inv2 D s i x L → i < L.length → x ≤ D.K.toNat →
    ((D.N * D.M).toNat - i - 1) * (D.K.toNat + 1) + (D.K.toNat - x) < n → ∃ L', grow D n i x L = some L'
  | 0, _, _, _, _, _, _, _, h => absurd h (by omega)
  | n + 1, i, x, L, I, J, hi, hx, h => by
    obtain ⟨O, A⟩ := F.a
    have hK := A.fK
    have hm : L.getD i pw0 ∈ L := getD_mem hi
    unfold grow
    by_cases c : (x : Int) < D.K
    · rw [if_pos c]
      have Qi : Quiet D (L.getD i pw0).1 := by
        rw [← J.go _ hm]
        exact Q.at (J.val _ hm)
      obtain ⟨h1, Q1⟩ := Qi.sy (x := (x : Int)) ⟨by omega, c⟩
      cases h2 : known L (D.nxt (L.getD i pw0).1 x) with
      | true => exact grow_ends F Q n i (x + 1) L I (J.known hi c h1 h2) hi (by omega) (by omega)
      | false => exact grow_ends F Q n i (x + 1) _ (I.push F hi ⟨by omega, c⟩ Q1.st h2) (J.push hi c h1) (by simp; omega) (by omega) (by omega)
    · rw [if_neg c]
      by_cases h3 : i + 1 < L.length
      · rw [if_pos h3]
        refine grow_ends F Q n (i + 1) 0 L I (J.next (by omega) (by omega) (by omega) h3) h3 (by omega) ?_
        have := I.most
        have e : (D.N * D.M).toNat - i - 1 = ((D.N * D.M).toNat - (i + 1) - 1) + 1 := by omega
        rw [e, Nat.succ_mul] at h
        omega
      · rw [if_neg h3]
        exact ⟨_, rfl⟩

/-- What holds of all that is come to. -/
structure Grown (D : Duo) (s : Int × Int) (L : List PW) : Prop where
  inv : Inv D s L
  go : ∀ e ∈ L, D.go s e.2 = e.1
  val : ∀ e ∈ L, validW D.K e.2
  shut : ∀ (j : Nat) (y : Int), j < L.length → 0 ≤ y ∧ y < D.K → ∃ m, m < L.length ∧ (L.getD m pw0).1 = D.nxt (L.getD j pw0).1 y

theorem grow_spec {D : Duo} {s : Int × Int} (F : D.Fine) (Q : Quiet D s) : ∀ (n i x : Nat) (L L' : List PW), Inv D s L → Inv2 D s i x L → i < L.length → x ≤ D.K.toNat → grow D n i x L = some L' → Grown D s L'
  | 0, _, _, _, _, _, _, _, _, h => by cases h
  | n + 1, i, x, L, L', I, J, hi, hx, h => by
    obtain ⟨O, A⟩ := F.a
    have hK := A.fK
    have hm : L.getD i pw0 ∈ L := getD_mem hi
    unfold grow at h
    by_cases c : (x : Int) < D.K
    · rw [if_pos c] at h
      have Qi : Quiet D (L.getD i pw0).1 := by
        rw [← J.go _ hm]
        exact Q.at (J.val _ hm)
      obtain ⟨h1, Q1⟩ := Qi.sy (x := (x : Int)) ⟨by omega, c⟩
      cases h2 : known L (D.nxt (L.getD i pw0).1 x) with
      | true => rw [h2, if_pos rfl] at h; exact grow_spec F Q n i (x + 1) L L' I (J.known hi c h1 h2) hi (by omega) h
      | false => rw [h2, if_neg (by decide)] at h; exact grow_spec F Q n i (x + 1) _ L' (I.push F hi ⟨by omega, c⟩ Q1.st h2) (J.push hi c h1) (by simp; omega) (by omega) h
    · rw [if_neg c] at h
      by_cases h3 : i + 1 < L.length
      · rw [if_pos h3] at h
        exact grow_spec F Q n (i + 1) 0 L L' I (J.next (by omega) (by omega) (by omega) h3) h3 (by omega) h
      · rw [if_neg h3] at h
        cases h
        refine ⟨I, J.go, J.val, fun j y hj hy => ?_⟩
        obtain ⟨_, m, h4, h5, _⟩ := J.done j y hj hy (by omega)
        exact ⟨m, h4, h5⟩

theorem growS_run {D : Duo} (F : D.Fine) {s : Int × Int} (hs : D.inn s) (Q : Quiet D s) : grow D D.fuel 0 0 [(s, [])] = some (growS D s) := by
  have I := Inv.start hs Q.st
  obtain ⟨r, hr⟩ := grow_ends F Q D.fuel 0 0 _ I (Inv2.start D s) (by simp) (by omega) (by
    have := I.most
    unfold Duo.fuel
    have e : (D.N * D.M).toNat = ((D.N * D.M).toNat - 0 - 1) + 1 := by
      simp at this
      omega
    generalize hm : (D.N * D.M).toNat - 0 - 1 = m at *
    rw [e, Nat.succ_mul]
    omega)
  unfold growS
  rw [hr]
  rfl
theorem growS_spec {D : Duo} (F : D.Fine) {s : Int × Int} (hs : D.inn s) (Q : Quiet D s) : Grown D s (growS D s) :=
  grow_spec F Q _ _ _ _ _ (Inv.start hs Q.st) (Inv2.start D s) (by simp) (by omega) (growS_run F hs Q)

/-- A machine beside itself is quiet. -/
theorem self_quiet {k K O N : Int} {nx ou : List Int} (F : Fine k K O N nx ou) (s : Int) : Quiet (selfD k K N nx ou) (s, s) := fun v _ => (end_tel (D := selfD k K N nx ou) F.fk (s, s) v).1 rfl

/-- In lockstep: where the pairs are one to one, both sides are walked alike. -/
theorem grow_lock {D E : Duo} (hK : D.K = E.K) (g : PW → PW) (hg : ∀ e x, g (D.nxt e.1 x, e.2 ++ [x]) = (E.nxt (g e).1 x, (g e).2 ++ [x]))
    (P : List PW → Prop) (hP : ∀ (L : List PW) (i x : Nat), P L → i < L.length → (x : Int) < D.K → known (L.map g) (E.nxt (g (L.getD i pw0)).1 x) = known L (D.nxt (L.getD i pw0).1 x) ∧ (known L (D.nxt (L.getD i pw0).1 x) = false → P (L ++ [(D.nxt (L.getD i pw0).1 x, (L.getD i pw0).2 ++ [(x : Int)])]))) :
    ∀ (n i x : Nat) (L L' : List PW), P L → i < L.length → grow D n i x L = some L' → grow E n i x (L.map g) = some (L'.map g)
  | 0, _, _, _, _, _, _, h => by cases h
  | n + 1, i, x, L, L', hL, hi, h => by
    have hgi : (L.map g).getD i pw0 = g (L.getD i pw0) := by
      rw [getD_of pw0 (by simpa using hi), getD_of pw0 hi, List.getElem_map]
    unfold grow at h ⊢
    rw [← hK, List.length_map, hgi]
    by_cases c : (x : Int) < D.K
    · obtain ⟨h1, h2⟩ := hP L i x hL hi c
      rw [if_pos c] at h ⊢
      rw [h1]
      cases hk : known L (D.nxt (L.getD i pw0).1 x) with
      | true =>
        rw [hk, if_pos rfl] at h
        rw [if_pos rfl]
        exact grow_lock hK g hg P hP n i (x + 1) L L' hL hi h
      | false =>
        rw [hk, if_neg (by decide)] at h
        rw [if_neg (by decide)]
        have := grow_lock hK g hg P hP n i (x + 1) _ L' (h2 hk) (by simp; omega) h
        rw [List.map_append, List.map_singleton, hg] at this
        exact this
    · rw [if_neg c] at h ⊢
      by_cases h3 : i + 1 < L.length
      · rw [if_pos h3] at h ⊢
        exact grow_lock hK g hg P hP n (i + 1) 0 L L' hL h3 h
      · rw [if_neg h3] at h ⊢
        cases h
        rfl

theorem grow_more {D : Duo} : ∀ (n i x : Nat) (L L' : List PW), grow D n i x L = some L' → ∀ m, n ≤ m → grow D m i x L = some L'
  | 0, _, _, _, _, h, _, _ => by cases h
  | n + 1, i, x, L, L', h, m, hm => by
    obtain ⟨m, rfl⟩ := Nat.exists_eq_succ_of_ne_zero (show m ≠ 0 by omega)
    unfold grow at h ⊢
    split
    · rename_i c
      rw [if_pos c] at h
      split
      · rename_i c2
        rw [if_pos c2] at h
        exact grow_more n i (x + 1) L L' h m (by omega)
      · rename_i c2
        rw [if_neg c2] at h
        exact grow_more n i (x + 1) _ L' h m (by omega)
    · rename_i c
      rw [if_neg c] at h
      split
      · rename_i c3
        rw [if_pos c3] at h
        exact grow_more n (i + 1) 0 L L' h m (by omega)
      · rename_i c3
        rw [if_neg c3] at h
        exact h
theorem grow_one {D : Duo} {n m i x : Nat} {L A B : List PW} (h1 : grow D n i x L = some A) (h2 : grow D m i x L = some B) : A = B := by
  have h3 := grow_more n i x L A h1 (n + m) (by omega)
  rw [grow_more m i x L B h2 (n + m) (by omega)] at h3
  exact (Option.some.inj h3).symm

/-! ### A machine of some states -/

def pickN (K : Int) (nx states place : List Int) : List Int := states.flatMap fun s => (List.range K.toNat).map fun x : Nat => place.getD (nx.getD (s * K + x).toNat 0).toNat 0
def pickO (k K : Int) (ou states : List Int) : List Int := if k = 1 then states.map fun s => ou.getD s.toNat 0 else states.flatMap fun s => (List.range K.toNat).map fun x : Nat => ou.getD (s * K + x).toNat 0

theorem flat_len {α : Type} (K : Nat) (g : α → List Int) (hg : ∀ a, (g a).length = K) : ∀ l : List α, (l.flatMap g).length = l.length * K
  | [] => by simp
  | a :: l => by
    rw [List.flatMap_cons, List.length_append, hg, flat_len K g hg l, List.length_cons, Nat.succ_mul]
    omega
theorem flat_get {α : Type} (K : Nat) (g : α → List Int) (hg : ∀ a, (g a).length = K) (d : α) : ∀ (l : List α) (i x : Nat), i < l.length → x < K → (l.flatMap g).getD (i * K + x) 0 = (g (l.getD i d)).getD x 0
  | [], i, x, hi, _ => absurd hi (by simp)
  | a :: l, 0, x, _, hx => by
    rw [List.flatMap_cons, List.getD_eq_getElem?_getD, Nat.zero_mul, Nat.zero_add, List.getElem?_append_left (by rw [hg]; exact hx), ← List.getD_eq_getElem?_getD]
    rfl
  | a :: l, i + 1, x, hi, hx => by
    have := flat_get K g hg d l i x (by simpa using hi) hx
    rw [List.flatMap_cons, List.getD_eq_getElem?_getD, List.getElem?_append_right (by rw [hg, Nat.succ_mul]; omega), hg, show (i + 1) * K + x - K = i * K + x by rw [Nat.succ_mul]; omega, ← List.getD_eq_getElem?_getD, this]
    rfl
theorem flat_ext {α β : Type} {g : α → List Int} {h : β → List Int} (d : α) (d' : β) : ∀ {l : List α} {m : List β}, l.length = m.length → (∀ i, i < l.length → g (l.getD i d) = h (m.getD i d')) → l.flatMap g = m.flatMap h
  | [], [], _, _ => rfl
  | [], _ :: _, hl, _ => by simp at hl
  | _ :: _, [], hl, _ => by simp at hl
  | a :: l, b :: m, hl, he => by
    rw [List.flatMap_cons, List.flatMap_cons, show g a = h b from he 0 (by simp), flat_ext d d' (by simpa using hl) fun i hi => he (i + 1) (by simpa using hi)]

theorem idx_nat {i K x : Int} (hi : 0 ≤ i) (hK : 0 ≤ K) (hx : 0 ≤ x) : (i * K + x).toNat = i.toNat * K.toNat + x.toNat := by
  have h : 0 ≤ i * K := Int.mul_nonneg hi hK
  have e : ((i.toNat * K.toNat : Nat) : Int) = i * K := by rw [Int.natCast_mul, Int.toNat_of_nonneg hi, Int.toNat_of_nonneg hK]
  omega

theorem pickN_get {K : Int} {nx states place : List Int} (hK : 0 ≤ K) {i x : Nat} (hi : i < states.length) (hx : (x : Int) < K) : (pickN K nx states place).getD ((i : Int) * K + x).toNat 0 = place.getD (nx.getD (states.getD i 0 * K + x).toNat 0).toNat 0 := by
  unfold pickN
  rw [idx_nat (by omega) hK (by omega), Int.toNat_natCast, Int.toNat_natCast, flat_get K.toNat _ (fun a => by simp) 0 states i x hi (by omega), getD_of 0 (by simp; omega)]
  simp
theorem pickO_get {k K : Int} {ou states : List Int} (hk : k ≠ 1) (hK : 0 ≤ K) {i x : Nat} (hi : i < states.length) (hx : (x : Int) < K) : (pickO k K ou states).getD ((i : Int) * K + x).toNat 0 = ou.getD (states.getD i 0 * K + x).toNat 0 := by
  unfold pickO
  rw [if_neg hk, idx_nat (by omega) hK (by omega), Int.toNat_natCast, Int.toNat_natCast, flat_get K.toNat _ (fun a => by simp) 0 states i x hi (by omega), getD_of 0 (by simp; omega)]
  simp
theorem pickO_get1 {k K : Int} {ou states : List Int} (hk : k = 1) {i : Nat} (hi : i < states.length) : (pickO k K ou states).getD i 0 = ou.getD (states.getD i 0).toNat 0 := by
  unfold pickO
  rw [if_pos hk, getD_of 0 (by simpa using hi), List.getElem_map, getD_of 0 hi]

theorem pickN_len {K : Int} {nx states place : List Int} : (pickN K nx states place).length = states.length * K.toNat := flat_len K.toNat _ (fun a => by simp) states
theorem pickO_len {k K : Int} {ou states : List Int} : (pickO k K ou states).length = if k = 1 then states.length else states.length * K.toNat := by
  unfold pickO
  split
  · simp
  · exact flat_len K.toNat _ (fun a => by simp) states

/-- The states, and the new number of each, fit. -/
structure Picks (k K N : Int) (nx ou states place : List Int) : Prop where
  inn : ∀ s ∈ states, 0 ≤ s ∧ s < N
  pos : 0 < states.length
  most : states.length ≤ 1024
  shut : ∀ (i x : Nat), i < states.length → (x : Int) < K → 0 ≤ place.getD (nx.getD (states.getD i 0 * K + x).toNat 0).toNat 0 ∧ place.getD (nx.getD (states.getD i 0 * K + x).toNat 0).toNat 0 < states.length ∧
    ∀ v, validW K v → (endS k K nx ou (nx.getD (states.getD i 0 * K + x).toNat 0) v).2 = (endS k K nx ou (states.getD (place.getD (nx.getD (states.getD i 0 * K + x).toNat 0).toNat 0).toNat 0) v).2

theorem pick_fine {k K O N : Int} {nx ou states place : List Int} (F : Fine k K O N nx ou) (P : Picks k K N nx ou states place) : Fine k K O states.length (pickN K nx states place) (pickO k K ou states) := by
  have hK := F.fK
  have e : ((states.length * K.toNat : Nat) : Int) = (states.length : Int) * K := by rw [Int.natCast_mul, Int.toNat_of_nonneg (by omega)]
  refine ⟨F.fk, F.fK, F.fO, F.fO2, ⟨by have := P.pos; omega, by have := P.most; omega⟩, by rw [pickN_len, e], fun h => by rw [pickO_len, if_pos h], fun h => by rw [pickO_len, if_neg (by omega), e], ?_, ?_⟩
  · intro y hy
    unfold pickN at hy
    obtain ⟨s, hs, hy⟩ := List.mem_flatMap.1 hy
    obtain ⟨x, hx, rfl⟩ := List.mem_map.1 hy
    have hx := List.mem_range.1 hx
    obtain ⟨i, hi, rfl⟩ := List.getElem_of_mem hs
    have := P.shut i x hi (by omega)
    rw [getD_of 0 hi] at this
    exact ⟨this.1, this.2.1⟩
  · intro y hy
    unfold pickO at hy
    split at hy
    · rename_i hk
      obtain ⟨s, hs, rfl⟩ := List.mem_map.1 hy
      have := P.inn s hs
      have := F.fou1 hk
      rw [getD_of 0 (by omega)]
      exact F.fous _ (List.getElem_mem _)
    · rename_i hk
      obtain ⟨s, hs, hy⟩ := List.mem_flatMap.1 hy
      obtain ⟨x, hx, rfl⟩ := List.mem_map.1 hy
      have hx := List.mem_range.1 hx
      have h1 := idx_in (P.inn s hs) (x := (x : Int)) (K := K) (by omega)
      have := F.fou2 (F.fk.resolve_left hk)
      rw [getD_of 0 (by omega)]
      exact F.fous _ (List.getElem_mem _)

/-- It says the same. -/
theorem pick_same {k K O N : Int} {nx ou states place : List Int} (F : Fine k K O N nx ou) (P : Picks k K N nx ou states place) : ∀ (v : List Int) (i : Nat), i < states.length → validW K v →
    (endS k K nx ou (states.getD i 0) v).2 = (endS k K (pickN K nx states place) (pickO k K ou states) (i : Int) v).2 := by
  have hK := F.fK
  have key : ∀ (v : List Int) (i : Nat), i < states.length → validW K v → Duo.tel ⟨k, K, N, states.length, nx, ou, pickN K nx states place, pickO k K ou states⟩ (states.getD i 0, (i : Int)) v = false := by
    intro v
    induction v with
    | nil =>
      intro i hi _
      unfold Duo.tel
      show (false || Duo.st _ _) = false
      rw [Bool.false_or]
      unfold Duo.st
      by_cases h : k = 1
      · dsimp only [Duo.go, List.foldl_nil]
        rw [Int.toNat_natCast, pickO_get1 h hi]
        simp
      · have : (k == 1) = false := by simpa using h
        dsimp only
        rw [this, Bool.false_and]
    | cons x v ih =>
      intro i hi hv
      have hx := hv x (by simp)
      have hxn : ((x.toNat : Nat) : Int) = x := Int.toNat_of_nonneg hx.1
      rw [tel_cons, Bool.or_eq_false_iff]
      obtain ⟨s1, s2, s3⟩ := P.shut i x.toNat hi (by omega)
      rw [hxn] at s1 s2 s3
      have hg := pickN_get (nx := nx) (place := place) (K := K) (by omega) hi (x := x.toNat) (by omega)
      rw [hxn] at hg
      constructor
      · unfold Duo.sy
        by_cases h : k = 1
        · have : (k == 2) = false := by
            have : k ≠ 2 := by omega
            simpa using this
          dsimp only
          rw [this, Bool.false_and]
        · have ho := pickO_get (k := k) (ou := ou) h (K := K) (by omega) hi (x := x.toNat) (by omega)
          rw [hxn] at ho
          dsimp only
          rw [ho]
          simp
      · have e : Duo.nxt ⟨k, K, N, states.length, nx, ou, pickN K nx states place, pickO k K ou states⟩ (states.getD i 0, (i : Int)) x = (nx.getD (states.getD i 0 * K + x).toNat 0, place.getD (nx.getD (states.getD i 0 * K + x).toNat 0).toNat 0) := by
          unfold Duo.nxt
          dsimp only
          rw [hg]
        rw [e]
        generalize place.getD (nx.getD (states.getD i 0 * K + x).toNat 0).toNat 0 = j at *
        have hj : ((j.toNat : Nat) : Int) = j := Int.toNat_of_nonneg s1
        have hvv : validW K v := fun y hy => hv y (by simp [hy])
        have h1 := ih j.toNat (by omega) hvv
        rw [hj] at h1
        refine (end_tel (D := ⟨k, K, N, states.length, nx, ou, pickN K nx states place, pickO k K ou states⟩) F.fk _ v).1 ?_
        have h2 := (end_tel (D := ⟨k, K, N, states.length, nx, ou, pickN K nx states place, pickO k K ou states⟩) F.fk _ v).2 h1
        exact (s3 v hvv).trans h2
  intro v i hi hv
  exact (end_tel (D := ⟨k, K, N, states.length, nx, ou, pickN K nx states place, pickO k K ou states⟩) F.fk (states.getD i 0, (i : Int)) v).2 (key v i hi hv)

/-! ### The pieces, as they are walked -/

theorem flatMap_len {α β : Type} (K : Nat) (g : α → List β) (hg : ∀ a, (g a).length = K) : ∀ l : List α, (l.flatMap g).length = l.length * K
  | [] => by simp
  | a :: l => by
    rw [List.flatMap_cons, List.length_append, hg, flatMap_len K g hg l, List.length_cons, Nat.succ_mul]
    omega
theorem pairsL_len (n : Nat) : (pairsL n).length = n * n := by
  unfold pairsL
  rw [flatMap_len n _ (fun a => by simp), List.length_range]

def rowN (K : Int) (nx place : List Int) (s : Int) (x : Nat) : List Int := (List.range x).map fun x : Nat => place.getD (nx.getD (s * K + x).toNat 0).toNat 0
def rowO (k K : Int) (ou : List Int) (s : Int) (x : Nat) : List Int := if k = 2 then (List.range x).map fun x : Nat => ou.getD (s * K + x).toNat 0 else []
def endO (k : Int) (ou : List Int) (s : Int) : List Int := if k = 1 then [ou.getD s.toNat 0] else []
theorem rowN_len (K : Int) (nx place : List Int) (s : Int) (x : Nat) : (rowN K nx place s x).length = x := by simp [rowN]
theorem rowO_len (k K : Int) (ou : List Int) (s : Int) (x : Nat) : (rowO k K ou s x).length ≤ x := by
  unfold rowO
  split <;> simp
theorem rowN_next (K : Int) (nx place : List Int) (s : Int) (x : Nat) : rowN K nx place s (x + 1) = rowN K nx place s x ++ [place.getD (nx.getD (s * K + x).toNat 0).toNat 0] := by
  unfold rowN
  rw [List.range_succ, List.map_append]
  rfl
theorem rowO_next (k K : Int) (ou : List Int) (s : Int) (x : Nat) : rowO k K ou s (x + 1) = rowO k K ou s x ++ (if k = 2 then [ou.getD (s * K + x).toNat 0] else []) := by
  unfold rowO
  by_cases h : k = 2
  · rw [if_pos h, if_pos h, if_pos h, List.range_succ, List.map_append]
    rfl
  · rw [if_neg h, if_neg h, if_neg h]
    rfl
theorem pickN_snoc (K : Int) (nx place : List Int) (l : List Int) (s : Int) : pickN K nx (l ++ [s]) place = pickN K nx l place ++ rowN K nx place s K.toNat := by
  unfold pickN rowN
  rw [List.flatMap_append]
  simp
theorem pickO_snoc {k : Int} (hk : k = 1 ∨ k = 2) (K : Int) (ou : List Int) (l : List Int) (s : Int) : pickO k K ou (l ++ [s]) = pickO k K ou l ++ rowO k K ou s K.toNat ++ endO k ou s := by
  unfold pickO rowO endO
  rcases hk with h | h
  · rw [if_pos h, if_pos h, if_neg (by omega), if_pos h, List.map_append, List.append_nil]
    rfl
  · rw [if_neg (by omega), if_neg (by omega), if_pos h, if_neg (by omega), List.flatMap_append, List.append_nil]
    simp

theorem nodup_inj {α : Type} {l : List α} (h : l.Nodup) {i j : Nat} (hi : i < l.length) (hj : j < l.length) (e : l[i] = l[j]) : i = j := by
  have hp := List.pairwise_iff_getElem.1 h
  rcases Nat.lt_trichotomy i j with g | g | g
  · exact absurd e (hp i j hi hj g)
  · exact g
  · exact absurd e.symm (hp j i hj hi g)

/-- Each state's place. -/
def placeS (states : List Int) : Nat → List Int → List Int
  | 0, acc => acc
  | i + 1, acc => (placeS states i acc).set (states.getD i 0).toNat (i : Int)
theorem placeS_len (states : List Int) (acc : List Int) : ∀ n, (placeS states n acc).length = acc.length
  | 0 => rfl
  | n + 1 => by
    simp only [placeS]
    rw [List.length_set, placeS_len states acc n]
theorem set_getD (l : List Int) (i t : Nat) (x : Int) : (l.set i x).getD t 0 = if i = t ∧ i < l.length then x else l.getD t 0 := by
  rw [List.getD_eq_getElem?_getD, List.getElem?_set, List.getD_eq_getElem?_getD]
  by_cases h : i = t
  · subst h
    by_cases h2 : i < l.length
    · simp [h2]
    · simp [h2]
  · simp [h]
theorem placeS_get {states acc : List Int} {N : Int} (hin : ∀ s ∈ states, 0 ≤ s ∧ s < N) (hn : states.Nodup) (hl : (acc.length : Int) = N) : ∀ (n j : Nat), n ≤ states.length → j < n → (placeS states n acc).getD (states.getD j 0).toNat 0 = j
  | 0, _, _, hj => absurd hj (by omega)
  | n + 1, j, hnl, hj => by
    simp only [placeS]
    have h1 := hin _ (getD_mem (l := states) (i := n) (d := 0) (by omega))
    have h2 := hin _ (getD_mem (l := states) (i := j) (d := 0) (by omega))
    rw [set_getD, placeS_len]
    by_cases c : j = n
    · subst c
      rw [if_pos ⟨rfl, by omega⟩]
    · rw [if_neg, placeS_get hin hn hl n j (by omega) (by omega)]
      rintro ⟨h, _⟩
      have : states.getD n 0 = states.getD j 0 := by omega
      rw [getD_of 0 (by omega), getD_of 0 (by omega)] at this
      exact c (nodup_inj hn (by omega) (by omega) this.symm)

/-- The first states of the classes. -/
def repsL (f : Nat → Nat → Bool) : Nat → List Int
  | 0 => []
  | s + 1 => if findP (fun t => !f s t) (List.range s) = none then repsL f s ++ [(s : Int)] else repsL f s
theorem repsL_len (f : Nat → Nat → Bool) : ∀ n, ((repsL f n).length : Int) = (clsF f n).2
  | 0 => rfl
  | n + 1 => by
    have ih := repsL_len f n
    cases h : findP (fun t => !f n t) (List.range n) with
    | none =>
      simp only [repsL, clsF, h, if_pos]
      rw [List.length_append, List.length_singleton]
      omega
    | some t =>
      simp only [repsL, clsF, h]
      exact ih
theorem repsL_in (f : Nat → Nat → Bool) : ∀ n, ∀ s ∈ repsL f n, 0 ≤ s ∧ s < n
  | 0, s, hs => by cases hs
  | n + 1, s, hs => by
    simp only [repsL] at hs
    split at hs
    · rcases List.mem_append.1 hs with hs | hs
      · have := repsL_in f n s hs
        omega
      · rw [List.mem_singleton] at hs
        subst hs
        omega
    · have := repsL_in f n s hs
      omega
/-- A number, once told, stays. -/
theorem clsF_stay (f : Nat → Nat → Bool) {s : Nat} : ∀ {n : Nat}, s < n → (clsF f n).1.getD s 0 = (clsF f (s + 1)).1.getD s 0
  | 0, h => absurd h (by omega)
  | n + 1, h => by
    by_cases c : s = n
    · subst c; rfl
    · have ih := clsF_stay f (s := s) (n := n) (by omega)
      have hl := clsF_len f n
      rw [← ih]
      simp only [clsF]
      split
      · rw [getD_snoc, if_pos (by omega)]
      · rw [getD_snoc, if_pos (by omega)]
/-- The first of a class is told apart by its number. -/
theorem clsF_first (f : Nat → Nat → Bool) {s n : Nat} (h : s < n) : (findP (fun t => !f s t) (List.range s) = none ↔ (clsF f n).1.getD s 0 = (clsF f s).2) ∧ (findP (fun t => !f s t) (List.range s) = none → (clsF f n).1.getD s 0 = (clsF f s).2) := by
  have hl := clsF_len f s
  have hin := clsF_in f s
  rw [clsF_stay f h]
  cases hf : findP (fun t => !f s t) (List.range s) with
  | none =>
    simp only [clsF, hf]
    rw [getD_snoc, if_neg (by omega), if_pos hl.symm]
    exact ⟨⟨fun _ => rfl, fun _ => trivial⟩, fun _ => rfl⟩
  | some t =>
    have ht := findP_lt hf
    rw [List.length_range] at ht
    have hc := (hin.2 _ (getD_mem (l := (clsF f s).1) (i := t) (d := 0) (by omega))).2
    refine ⟨⟨fun h => (by cases h), fun h => ?_⟩, fun h => (by cases h)⟩
    simp only [clsF, hf] at h
    rw [getD_snoc, if_neg (by omega), if_pos hl.symm] at h
    omega

end Go.Ev
