/- Which states of a machine are apart; in plain lists. -/
import Derived.Test.YtbgggblbkknaoaaDoorEvBfs3
namespace Go.Ev
set_option linter.unusedVariables false
set_option linter.unusedSimpArgs false

def mat (n : Nat) (f : Nat → Nat → Bool) : List (List Bool) := (List.range n).map fun s => (List.range n).map (f s)
theorem mat_len (n : Nat) (f : Nat → Nat → Bool) : (mat n f).length = n := by simp [mat]
theorem mat_row {n : Nat} {f : Nat → Nat → Bool} {s : Nat} (h : s < n) : (mat n f).getD s [] = (List.range n).map (f s) := by
  rw [getD_of [] (by rw [mat_len]; exact h)]
  simp [mat]
theorem mat_rlen {n : Nat} {f : Nat → Nat → Bool} {s : Nat} (h : s < n) : ((mat n f).getD s []).length = n := by rw [mat_row h]; simp
theorem mat_get {n : Nat} {f : Nat → Nat → Bool} {s t : Nat} (h : s < n) (ht : t < n) : ((mat n f).getD s []).getD t false = f s t := by
  rw [mat_row h, getD_of false (by simpa using ht)]
  simp
theorem mat_congr {n : Nat} {f g : Nat → Nat → Bool} (h : ∀ s t, s < n → t < n → f s t = g s t) : mat n f = mat n g := by
  unfold mat
  refine List.map_congr_left fun s hs => List.map_congr_left fun t ht => h s t (List.mem_range.1 hs) (List.mem_range.1 ht)
theorem mat_inj {n : Nat} {f g : Nat → Nat → Bool} (h : mat n f = mat n g) {s t : Nat} (hs : s < n) (ht : t < n) : f s t = g s t := by
  rw [← mat_get hs ht (f := f), h, mat_get hs ht]
def ofM (l : List (List Bool)) (s t : Nat) : Bool := (l.getD s []).getD t false

/-- A row that is filled up to a place; what stands there. -/
def prow (n : Nat) (g : Nat → Bool) (t : Nat) (b : Bool) : List Bool := (List.range n).map fun i => if i < t then g i else if i = t then b else false
theorem prow_len (n : Nat) (g : Nat → Bool) (t : Nat) (b : Bool) : (prow n g t b).length = n := by simp [prow]
theorem prow_zero (n : Nat) (g : Nat → Bool) : List.replicate n false = prow n g 0 false := by
  refine List.ext_getElem (by simp [prow]) fun i h1 h2 => ?_
  simp [prow]
theorem prow_set {n : Nat} {g : Nat → Bool} {t : Nat} {b c : Bool} : (prow n g t b).set t c = prow n g t c := by
  refine List.ext_getElem (by simp [prow]) fun i h1 h2 => ?_
  rw [List.getElem_set]
  by_cases h : t = i
  · subst h
    simp [prow]
  · have h' : ¬ i = t := fun e => h e.symm
    simp [prow, h, h']
theorem prow_next {n : Nat} {g : Nat → Bool} {t : Nat} : prow n g t (g t) = prow n g (t + 1) false := by
  refine List.ext_getElem (by simp [prow]) fun i h1 h2 => ?_
  simp only [prow, List.getElem_map, List.getElem_range]
  by_cases h : i < t
  · rw [if_pos h, if_pos (by omega)]
  · by_cases h3 : i = t
    · subst h3
      rw [if_neg h, if_pos rfl, if_pos (by omega)]
    · rw [if_neg h, if_neg h3, if_neg (by omega)]
      split <;> rfl
theorem prow_get {n : Nat} {g : Nat → Bool} {t : Nat} {b : Bool} (h : t < n) : (prow n g t b).getD t false = b := by
  rw [getD_of false (by rw [prow_len]; exact h)]
  simp [prow]
theorem prow_end {n : Nat} {g : Nat → Bool} : prow n g n false = (List.range n).map g := by
  unfold prow
  refine List.map_congr_left fun i hi => ?_
  rw [if_pos (List.mem_range.1 hi)]
theorem mat_take {n s : Nat} {f : Nat → Nat → Bool} (h : s < n) : (mat n f).take (s + 1) = (mat n f).take s ++ [(List.range n).map (f s)] := by
  rw [List.take_add_one, List.getElem?_eq_getElem (by rw [mat_len]; exact h)]
  simp [mat]

/-- The same is said in two states. -/
def now5 (k K : Int) (ou : List Int) (s t : Int) : Bool :=
  if k = 1 then ou.getD s.toNat 0 == ou.getD t.toNat 0 else (findP (fun x : Nat => ou.getD (s * K + x).toNat 0 != ou.getD (t * K + x).toNat 0) (List.range K.toNat)).isNone
def apart0 (k K : Int) (ou : List Int) (s t : Nat) : Bool := k == 1 && !(now5 k K ou s t)
/-- What comes before the symbols. -/
def apartN (k K : Int) (ou : List Int) (f : Nat → Nat → Bool) (s t : Nat) : Bool := f s t || (k == 2 && !(now5 k K ou s t))
def anyX (K : Int) (nx : List Int) (f : Nat → Nat → Bool) (s t : Nat) : Nat → Bool → Bool
  | 0, b => b
  | x + 1, b => anyX K nx f s t x b || f (nx.getD ((s : Int) * K + x).toNat 0).toNat (nx.getD ((t : Int) * K + x).toNat 0).toNat
def apart1 (k K : Int) (nx ou : List Int) (f : Nat → Nat → Bool) (s t : Nat) : Bool := anyX K nx f s t K.toNat (apartN k K ou f s t)
theorem anyX_true (K : Int) (nx : List Int) (f : Nat → Nat → Bool) (s t : Nat) : ∀ n, anyX K nx f s t n true = true
  | 0 => rfl
  | n + 1 => by simp only [anyX]; rw [anyX_true K nx f s t n]; rfl
theorem anyX_up {K : Int} {nx : List Int} {f : Nat → Nat → Bool} {s t : Nat} {b : Bool} : ∀ {n m : Nat}, n ≤ m → anyX K nx f s t n b = true → anyX K nx f s t m b = true
  | n, 0, h, hb => by
    have : n = 0 := by omega
    subst this
    exact hb
  | n, m + 1, h, hb => by
    simp only [anyX]
    by_cases c : n ≤ m
    · rw [anyX_up c hb]; rfl
    · have : n = m + 1 := by omega
      subst this
      exact hb
theorem anyX_iff {K : Int} {nx : List Int} {f : Nat → Nat → Bool} {s t : Nat} {b : Bool} : ∀ {n : Nat}, anyX K nx f s t n b = true ↔ b = true ∨ ∃ x, x < n ∧ f (nx.getD ((s : Int) * K + x).toNat 0).toNat (nx.getD ((t : Int) * K + x).toNat 0).toNat = true
  | 0 => ⟨.inl, fun h => h.elim id fun ⟨x, h, _⟩ => absurd h (by omega)⟩
  | n + 1 => by
    simp only [anyX, Bool.or_eq_true]
    rw [anyX_iff (n := n)]
    constructor
    · rintro ((h | ⟨x, h1, h2⟩) | h)
      · exact .inl h
      · exact .inr ⟨x, by omega, h2⟩
      · exact .inr ⟨n, by omega, h⟩
    · rintro (h | ⟨x, h1, h2⟩)
      · exact .inl (.inl h)
      · by_cases c : x = n
        · subst c; exact .inr h2
        · exact .inl (.inr ⟨x, by omega, h2⟩)

/-- Whether anything changed, up to a place. -/
def moreR (n : Nat) (f g : Nat → Nat → Bool) (s : Nat) : Nat → Bool
  | 0 => false
  | t + 1 => moreR n f g s t || (g s t != f s t)
def moreS (n : Nat) (f g : Nat → Nat → Bool) : Nat → Bool
  | 0 => false
  | s + 1 => moreS n f g s || moreR n f g s n
theorem moreR_false {n : Nat} {f g : Nat → Nat → Bool} {s : Nat} : ∀ {t : Nat}, moreR n f g s t = false ↔ ∀ i, i < t → g s i = f s i
  | 0 => ⟨fun _ i h => absurd h (by omega), fun _ => rfl⟩
  | t + 1 => by
    simp only [moreR, Bool.or_eq_false_iff, bne_eq_false_iff_eq]
    rw [moreR_false (t := t)]
    constructor
    · rintro ⟨h1, h2⟩ i hi
      by_cases c : i = t
      · subst c; exact h2
      · exact h1 i (by omega)
    · exact fun h => ⟨fun i hi => h i (by omega), h t (by omega)⟩
theorem moreS_false {n : Nat} {f g : Nat → Nat → Bool} : ∀ {s : Nat}, moreS n f g s = false ↔ ∀ i j, i < s → j < n → g i j = f i j
  | 0 => ⟨fun _ i j h => absurd h (by omega), fun _ => rfl⟩
  | s + 1 => by
    simp only [moreS, Bool.or_eq_false_iff]
    rw [moreS_false (s := s), moreR_false]
    constructor
    · rintro ⟨h1, h2⟩ i j hi hj
      by_cases c : i = s
      · subst c; exact h2 j hj
      · exact h1 i j (by omega) hj
    · exact fun h => ⟨fun i j hi hj => h i j (by omega) hj, fun j hj => h s j (by omega) hj⟩

/-- The classes' numbers, and how many there are. -/
def clsF (f : Nat → Nat → Bool) : Nat → List Int × Int
  | 0 => ([], 0)
  | s + 1 => match findP (fun t => !f s t) (List.range s) with
    | some t => ((clsF f s).1 ++ [(clsF f s).1.getD t 0], (clsF f s).2)
    | none => ((clsF f s).1 ++ [(clsF f s).2], (clsF f s).2 + 1)
theorem clsF_len (f : Nat → Nat → Bool) : ∀ s, (clsF f s).1.length = s
  | 0 => rfl
  | s + 1 => by
    simp only [clsF]
    split <;> rw [List.length_append, clsF_len f s] <;> rfl
theorem findP_lt {α : Type} {p : α → Bool} : ∀ {l : List α} {i : Nat}, findP p l = some i → i < l.length
  | [], i, h => by cases h
  | x :: xs, i, h => by
    simp only [findP] at h
    split at h
    · cases h; simp
    · cases hf : findP p xs with
      | none => rw [hf] at h; cases h
      | some j =>
        rw [hf] at h
        cases h
        have := findP_lt hf
        simp
        omega
theorem clsF_in (f : Nat → Nat → Bool) : ∀ s, (0 ≤ (clsF f s).2 ∧ (clsF f s).2 ≤ s) ∧ ∀ c ∈ (clsF f s).1, 0 ≤ c ∧ c < (clsF f s).2
  | 0 => ⟨⟨Int.le_refl 0, Int.le_refl 0⟩, fun c hc => by cases hc⟩
  | s + 1 => by
    obtain ⟨h1, h2⟩ := clsF_in f s
    simp only [clsF]
    split
    · rename_i t ht
      have hlt := findP_lt ht
      rw [List.length_range] at hlt
      refine ⟨⟨h1.1, by dsimp only; omega⟩, fun c hc => ?_⟩
      rcases List.mem_append.1 hc with hc | hc
      · exact h2 c hc
      · rw [List.mem_singleton] at hc
        subst hc
        exact h2 _ (getD_mem (by rw [clsF_len]; exact hlt))
    · refine ⟨⟨by dsimp only; omega, by dsimp only; omega⟩, fun c hc => ?_⟩
      rcases List.mem_append.1 hc with hc | hc
      · have := h2 c hc
        dsimp only
        omega
      · rw [List.mem_singleton] at hc
        subst hc
        dsimp only
        omega

/-! ### Round by round -/

section
variable {k K O N : Int} {nx ou : List Int}

theorem nxt_nat (F : Fine k K O N nx ou) {s x : Nat} (hs : (s : Int) < N) (hx : (x : Int) < K) : (((nx.getD ((s : Int) * K + x).toNat 0).toNat : Nat) : Int) = nx.getD ((s : Int) * K + x).toNat 0 ∧ (nx.getD ((s : Int) * K + x).toNat 0).toNat < N.toNat := by
  have h1 := idx_in (s := (s : Int)) (x := (x : Int)) (N := N) (K := K) ⟨by omega, hs⟩ ⟨by omega, hx⟩
  have h2 := F.fnx
  have h3 : 0 ≤ nx.getD ((s : Int) * K + x).toNat 0 ∧ nx.getD ((s : Int) * K + x).toNat 0 < N := by
    rw [getD_of 0 (by omega)]
    exact F.fnxs _ (List.getElem_mem _)
  exact ⟨Int.toNat_of_nonneg h3.1, by omega⟩

theorem anyX_congr (F : Fine k K O N nx ou) {f g : Nat → Nat → Bool} (h : ∀ s t, s < N.toNat → t < N.toNat → f s t = g s t) {s t : Nat} (hs : s < N.toNat) (ht : t < N.toNat) (b : Bool) : ∀ n : Nat, (n : Int) ≤ K → anyX K nx f s t n b = anyX K nx g s t n b
  | 0, _ => rfl
  | n + 1, hn => by
    simp only [anyX]
    rw [anyX_congr F h hs ht b n (by omega), h _ _ (nxt_nat F (s := s) (x := n) (by omega) (by omega)).2 (nxt_nat F (s := t) (x := n) (by omega) (by omega)).2]
theorem apart1_congr (F : Fine k K O N nx ou) {f g : Nat → Nat → Bool} (h : ∀ s t, s < N.toNat → t < N.toNat → f s t = g s t) {s t : Nat} (hs : s < N.toNat) (ht : t < N.toNat) : apart1 k K nx ou f s t = apart1 k K nx ou g s t := by
  have hK := F.fK
  unfold apart1 apartN
  rw [h s t hs ht, anyX_congr F h hs ht _ K.toNat (by omega)]
theorem moreR_congr {n : Nat} {f g f' g' : Nat → Nat → Bool} {s : Nat} : ∀ {t : Nat}, (∀ i, i < t → g s i = g' s i ∧ f s i = f' s i) → moreR n f g s t = moreR n f' g' s t
  | 0, _ => rfl
  | t + 1, h => by
    simp only [moreR]
    rw [moreR_congr fun i hi => h i (by omega), (h t (by omega)).1, (h t (by omega)).2]
theorem moreS_congr {n : Nat} {f g f' g' : Nat → Nat → Bool} : ∀ {s : Nat}, (∀ i j, i < s → j < n → g i j = g' i j ∧ f i j = f' i j) → moreS n f g s = moreS n f' g' s
  | 0, _ => rfl
  | s + 1, h => by
    simp only [moreS]
    rw [moreS_congr fun i j hi hj => h i j (by omega) hj, moreR_congr fun j hj => h s j (by omega) hj]
theorem clsF_congr {f g : Nat → Nat → Bool} : ∀ {n : Nat}, (∀ s t, s < n → t < n → f s t = g s t) → clsF f n = clsF g n
  | 0, _ => rfl
  | n + 1, h => by
    have h1 := clsF_congr (n := n) fun s t hs ht => h s t (by omega) (by omega)
    have h2 : findP (fun t => !f n t) (List.range n) = findP (fun t => !g n t) (List.range n) := findP_congr fun t ht => by
      have := List.mem_range.1 ht
      rw [h n t (by omega) (by omega)]
    simp only [clsF]
    rw [h1, h2]

theorem ofM_mat {n : Nat} (f : Nat → Nat → Bool) {s t : Nat} (hs : s < n) (ht : t < n) : ofM (mat n f) s t = f s t := mat_get hs ht

/-- Until nothing changes. -/
def iterM (k K N : Int) (nx ou : List Int) : Nat → Nat → (Nat → Nat → Bool) → Nat × (Nat → Nat → Bool)
  | 0, i, f => (i, f)
  | n + 1, i, f => if moreS N.toNat f (apart1 k K nx ou f) N.toNat then iterM k K N nx ou n (i + 1) (apart1 k K nx ou f) else (i, f)

def pairsL (n : Nat) : List (Nat × Nat) := (List.range n).flatMap fun s => (List.range n).map fun t => (s, t)
theorem pairsL_mem {n s t : Nat} : (s, t) ∈ pairsL n ↔ s < n ∧ t < n := by
  unfold pairsL
  simp [List.mem_flatMap]
def cntM (n : Nat) (f : Nat → Nat → Bool) : Nat := ((pairsL n).filter fun p => f p.1 p.2).length
theorem apart1_up (F : Fine k K O N nx ou) {f : Nat → Nat → Bool} {s t : Nat} (h : f s t = true) : apart1 k K nx ou f s t = true := by
  unfold apart1
  refine anyX_iff.2 (.inl ?_)
  unfold apartN
  rw [h]
  rfl

theorem iterM_stops (F : Fine k K O N nx ou) : ∀ (n i : Nat) (f : Nat → Nat → Bool), (pairsL N.toNat).length < n + cntM N.toNat f →
    moreS N.toNat (iterM k K N nx ou n i f).2 (apart1 k K nx ou (iterM k K N nx ou n i f).2) N.toNat = false
  | 0, i, f, h => by
    have : cntM N.toNat f ≤ (pairsL N.toNat).length := List.length_filter_le _ _
    omega
  | n + 1, i, f, h => by
    unfold iterM
    cases hm : moreS N.toNat f (apart1 k K nx ou f) N.toNat with
    | false =>
      rw [if_neg (by decide)]
      exact hm
    | true =>
      rw [if_pos rfl]
      refine iterM_stops F n (i + 1) _ ?_
      have hlt : cntM N.toNat f < cntM N.toNat (apart1 k K nx ou f) := by
        refine (filter_less fun p _ hp => apart1_up F hp).2 ?_
        refine Classical.byContradiction fun hc => ?_
        have : moreS N.toNat f (apart1 k K nx ou f) N.toNat = false := moreS_false.2 fun a b ha hb => by
          cases h1 : f a b with
          | true => exact apart1_up F h1
          | false =>
            cases h2 : apart1 k K nx ou f a b with
            | false => rfl
            | true => exact absurd ⟨(a, b), pairsL_mem.2 ⟨ha, hb⟩, h2, h1⟩ hc
        rw [this] at hm
        cases hm
      omega

/-- The machine beside itself. -/
def selfD (k K N : Int) (nx ou : List Int) : Duo := ⟨k, K, N, N, nx, ou, nx, ou⟩
theorem selfD_fine (F : Fine k K O N nx ou) : (selfD k K N nx ou).Fine := ⟨⟨O, F⟩, ⟨O, F⟩⟩

theorem now5_sy {k K : Int} (hk : k = 2) (N : Int) (nx ou : List Int) (s t : Nat) : now5 k K ou s t = false ↔ ∃ x : Nat, (x : Int) < K ∧ (selfD k K N nx ou).sy ((s : Int), (t : Int)) x = true := by
  unfold now5
  rw [if_neg (by omega)]
  have e : ∀ x : Nat, (selfD k K N nx ou).sy ((s : Int), (t : Int)) x = (ou.getD ((s : Int) * K + x).toNat 0 != ou.getD ((t : Int) * K + x).toNat 0) := fun x => by
    unfold Duo.sy selfD
    rw [hk]
    rfl
  cases hf : findP (fun x : Nat => ou.getD ((s : Int) * K + x).toNat 0 != ou.getD ((t : Int) * K + x).toNat 0) (List.range K.toNat) with
  | none =>
    refine ⟨fun h => (by simp at h), fun ⟨x, h1, h2⟩ => ?_⟩
    have := findP_none.1 hf x (List.mem_range.2 (by omega))
    rw [e, this] at h2
    cases h2
  | some i =>
    refine ⟨fun _ => ?_, fun _ => rfl⟩
    refine Classical.byContradiction fun hc => ?_
    have : findP (fun x : Nat => ou.getD ((s : Int) * K + x).toNat 0 != ou.getD ((t : Int) * K + x).toNat 0) (List.range K.toNat) = none := findP_none.2 fun x hx => by
      have hx := List.mem_range.1 hx
      cases hb : (ou.getD ((s : Int) * K + x).toNat 0 != ou.getD ((t : Int) * K + x).toNat 0) with
      | false => rfl
      | true => exact absurd ⟨x, by omega, by rw [e]; exact hb⟩ hc
    rw [this] at hf
    cases hf

theorem tel_cons (D : Duo) (p : Int × Int) (x : Int) (w : List Int) : D.tel p (x :: w) = (D.sy p x || D.tel (D.nxt p x) w) := by
  unfold Duo.tel
  show ((D.sy p x || D.syP (D.nxt p x) w) || D.st (D.go (D.nxt p x) w)) = _
  rw [Bool.or_assoc]

/-- What is told apart by a word. -/
def ApartW (k K N : Int) (nx ou : List Int) (s t : Nat) : Prop := ∃ v, validW K v ∧ (selfD k K N nx ou).tel ((s : Int), (t : Int)) v = true

theorem apart0_st (N : Int) (nx : List Int) (s t : Nat) : apart0 k K ou s t = (selfD k K N nx ou).st ((s : Int), (t : Int)) := by
  unfold apart0 Duo.st selfD now5
  by_cases h : k = 1
  · subst h
    rw [if_pos rfl]
    rfl
  · have : (k == 1) = false := by simpa using h
    simp only [this, Bool.false_and]

theorem nxt_pair (F : Fine k K O N nx ou) {s t x : Nat} (hs : (s : Int) < N) (ht : (t : Int) < N) (hx : (x : Int) < K) :
    (selfD k K N nx ou).nxt ((s : Int), (t : Int)) x = ((((nx.getD ((s : Int) * K + x).toNat 0).toNat : Nat) : Int), (((nx.getD ((t : Int) * K + x).toNat 0).toNat : Nat) : Int)) := by
  rw [(nxt_nat F hs hx).1, (nxt_nat F ht hx).1]
  rfl

theorem sound_round (F : Fine k K O N nx ou) {f : Nat → Nat → Bool} (h : ∀ s t, s < N.toNat → t < N.toNat → f s t = true → ApartW k K N nx ou s t) : ∀ s t, s < N.toNat → t < N.toNat → apart1 k K nx ou f s t = true → ApartW k K N nx ou s t := by
  intro s t hs ht ha
  have hK := F.fK
  unfold apart1 at ha
  rcases anyX_iff.1 ha with ha | ⟨x, hx, ha⟩
  · unfold apartN at ha
    rw [Bool.or_eq_true] at ha
    rcases ha with ha | ha
    · exact h s t hs ht ha
    · rw [Bool.and_eq_true, Bool.not_eq_true'] at ha
      obtain ⟨x, h1, h2⟩ := (now5_sy (by simpa using ha.1) N nx ou s t).1 ha.2
      refine ⟨[(x : Int)], fun y hy => ?_, ?_⟩
      · rw [List.mem_singleton] at hy
        subst hy
        omega
      · rw [tel_cons, h2]
        rfl
  · obtain ⟨v, hv, htl⟩ := h _ _ (nxt_nat F (s := s) (x := x) (by omega) (by omega)).2 (nxt_nat F (s := t) (x := x) (by omega) (by omega)).2 ha
    refine ⟨(x : Int) :: v, fun y hy => ?_, ?_⟩
    · rcases List.mem_cons.1 hy with rfl | hy
      · omega
      · exact hv y hy
    · rw [tel_cons, nxt_pair F (by omega) (by omega) (by omega), htl, Bool.or_true]

theorem iterM_sound (F : Fine k K O N nx ou) : ∀ (n i : Nat) (f : Nat → Nat → Bool), (∀ s t, s < N.toNat → t < N.toNat → f s t = true → ApartW k K N nx ou s t) → ∀ s t, s < N.toNat → t < N.toNat → (iterM k K N nx ou n i f).2 s t = true → ApartW k K N nx ou s t
  | 0, i, f, h => h
  | n + 1, i, f, h => by
    unfold iterM
    split
    · exact iterM_sound F n (i + 1) _ (sound_round F h)
    · exact h
theorem iterM_up (F : Fine k K O N nx ou) : ∀ (n i : Nat) (f : Nat → Nat → Bool) {s t : Nat}, f s t = true → (iterM k K N nx ou n i f).2 s t = true
  | 0, i, f, s, t, h => h
  | n + 1, i, f, s, t, h => by
    unfold iterM
    split
    · exact iterM_up F n (i + 1) _ (apart1_up F h)
    · exact h

/-- What the rounds come to. -/
def apartF (k K N : Int) (nx ou : List Int) : Nat → Nat → Bool := (iterM k K N nx ou ((pairsL N.toNat).length + 1) 0 (apart0 k K ou)).2

theorem apartF_iff (F : Fine k K O N nx ou) {s t : Nat} (hs : s < N.toNat) (ht : t < N.toNat) : apartF k K N nx ou s t = true ↔ ApartW k K N nx ou s t := by
  constructor
  · refine iterM_sound F _ _ _ (fun s t hs ht h => ⟨[], fun x hx => (by cases hx), ?_⟩) s t hs ht
    rw [apart0_st N nx] at h
    unfold Duo.tel
    show (false || _) = true
    rw [Bool.false_or]
    exact h
  · have hst := iterM_stops F ((pairsL N.toNat).length + 1) 0 (apart0 k K ou) (by omega)
    have hfix : ∀ s t, s < N.toNat → t < N.toNat → apart1 k K nx ou (apartF k K N nx ou) s t = apartF k K N nx ou s t := fun s t hs ht => moreS_false.1 hst s t hs ht
    have key : ∀ (v : List Int) (s t : Nat), s < N.toNat → t < N.toNat → validW K v → (selfD k K N nx ou).tel ((s : Int), (t : Int)) v = true → apartF k K N nx ou s t = true := by
      intro v
      induction v with
      | nil =>
        intro s t hs ht _ h
        refine iterM_up F _ _ _ ?_
        rw [apart0_st N nx]
        unfold Duo.tel at h
        have h' : (false || (selfD k K N nx ou).st ((s : Int), (t : Int))) = true := h
        rw [Bool.false_or] at h'
        exact h'
      | cons x v ih =>
        intro s t hs ht hv h
        have hx := hv x (by simp)
        have hxn : ((x.toNat : Nat) : Int) = x := Int.toNat_of_nonneg hx.1
        rw [← hxn] at h
        rw [tel_cons, Bool.or_eq_true] at h
        rw [← hfix s t hs ht]
        unfold apart1
        refine anyX_iff.2 ?_
        rcases h with h | h
        · refine .inl ?_
          have hk : k = 2 := by
            unfold Duo.sy selfD at h
            rw [Bool.and_eq_true] at h
            simpa using h.1
          unfold apartN
          rw [(now5_sy hk N nx ou s t).2 ⟨x.toNat, by omega, h⟩, show (k == 2) = true by simpa using hk, Bool.true_and, Bool.not_false, Bool.or_true]
        · refine .inr ⟨x.toNat, by omega, ?_⟩
          rw [nxt_pair F (by omega) (by omega) (by omega)] at h
          exact ih _ _ (nxt_nat F (by omega) (by omega)).2 (nxt_nat F (by omega) (by omega)).2 (fun y hy => hv y (by simp [hy])) h
    rintro ⟨v, hv, h⟩
    exact key v s t hs ht hv h
end

end Go.Ev
