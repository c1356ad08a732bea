/- Functions of the program, as trees of tests over numbers and lists; no program in sight. -/
import Derived.Test.YtahecgbjneaboaaEvWord
namespace Go.Ev
set_option linter.unusedVariables false
set_option linter.unusedSimpArgs false
set_option maxRecDepth 100000
set_option maxHeartbeats 4000000

/-- tutor/word.alphabet -/
def l_word_alphabet {R : Type} (k : Int) (K0 : Bool → Option R) : Option R :=
  bi (decide (k ≥ 1))
   (K0 (decide (k ≤ 64)))
   (K0 false)

theorem alpha_eq {R : Type} (k : Int) (K0 : Bool → Option R) : l_word_alphabet k K0 = K0 (decide (1 ≤ k ∧ k ≤ 64)) := by
  unfold l_word_alphabet
  by_cases h : k ≥ 1
  · rw [br_pos h]
    congr 1
    rw [decide_eq_decide]
    omega
  · rw [br_neg h, decide_eq_false (by omega)]

/-- slices.Reverse[[]int,int] -/
def s_slices_Reverse_int_int_1 {R : Type} (g48_1 : Int → Int → (List Int) → Option R) (K0 : (List Int) → Option R) (i : Int) (j : Int) (o0 : List Int) : Option R :=
  bi (decide (i < j))
   (bi (decide (0 ≤ j ∧ j < ((o0.length : Nat) : Int)))
    (bi (decide (0 ≤ i ∧ i < ((o0.length : Nat) : Int)))
     (bi (decide (0 ≤ i ∧ i < ((o0.length : Nat) : Int)))
      (bi (decide (0 ≤ j ∧ j < (((o0.set i.toNat (o0.getD j.toNat 0)).length : Nat) : Int)))
       (g48_1 (IntKind.i64.wrap (i + 1)) (IntKind.i64.wrap (j - 1)) ((o0.set i.toNat (o0.getD j.toNat 0)).set j.toNat (o0.getD i.toNat 0)))
       none)
      none)
     none)
    none)
   (K0 o0)

/-- slices.Reverse[[]int,int] -/
def e_slices_Reverse_int_int {R : Type} (g48_1 : Int → Int → (List Int) → Option R) (K0 : (List Int) → Option R) (o0 : List Int) : Option R :=
  g48_1 0 (IntKind.i64.wrap ((o0.length : Int) - 1)) o0

def run_slices_Reverse_int_int {R : Type} (K0 : (List Int) → Option R) : Nat → Int → Int → (List Int) → Option R
  | 0 => fun _ _ _ => none
  | n + 1 => s_slices_Reverse_int_int_1 (run_slices_Reverse_int_int K0 n) K0

def l_slices_Reverse_int_int {R : Type} (o0 : List Int) (K0 : (List Int) → Option R) : Option R := bi (decide (short o0)) (K0 o0.reverse) none

/-- Both ends turned, up to a place. -/
def revA (w : List Int) (a : Nat) : List Int := (List.range w.length).map fun t => if t < a ∨ w.length - a ≤ t then w.getD (w.length - 1 - t) 0 else w.getD t 0

theorem revA_len (w : List Int) (a : Nat) : (revA w a).length = w.length := by simp [revA]
theorem revA_get (w : List Int) (a t : Nat) (h : t < w.length) : (revA w a).getD t 0 = if t < a ∨ w.length - a ≤ t then w.getD (w.length - 1 - t) 0 else w.getD t 0 := by
  unfold revA
  rw [getD_of 0 (by simpa using h), List.getElem_map, List.getElem_range]
theorem revA_ext {w u : List Int} {a : Nat} (hl : u.length = w.length) (h : ∀ t, t < w.length → u.getD t 0 = if t < a ∨ w.length - a ≤ t then w.getD (w.length - 1 - t) 0 else w.getD t 0) : u = revA w a := by
  refine List.ext_getElem (by rw [hl, revA_len]) fun t h1 h2 => ?_
  have e1 := h t (by omega)
  rw [getD_of 0 h1] at e1
  rw [e1, ← getD_of 0 h2, revA_get w a t (by omega)]

theorem getD_set (l : List Int) (i t : Nat) (x : Int) : (l.set i x).getD t 0 = if i = t ∧ i < l.length then x else l.getD t 0 := by
  rw [List.getD_eq_getElem?_getD, List.getElem?_set, List.getD_eq_getElem?_getD]
  by_cases h : i = t
  · subst h
    by_cases h2 : i < l.length
    · simp [h2]
    · simp [h2]
  · simp [h]

theorem ok_slices_Reverse_int_int {R : Type} (o0 : List Int) (K0 : (List Int) → Option R) {r : R} (h : l_slices_Reverse_int_int o0 K0 = some r) : ∃ fuel, e_slices_Reverse_int_int (run_slices_Reverse_int_int K0 fuel) K0 o0 = some r := by
  unfold l_slices_Reverse_int_int at h
  rcases bi_some h with ⟨hs, h⟩ | ⟨_, h⟩
  · have hs : o0.length < 4611686018427387904 := of_decide_eq_true hs
    refine ⟨o0.length + 1, ?_⟩
    rw [← h]
    have key : ∀ (d a : Nat), a + d = o0.length → run_slices_Reverse_int_int K0 (d + 1) (a : Int) ((o0.length : Int) - 1 - (a : Int)) (revA o0 a) = K0 o0.reverse := by
      have fin : ∀ a : Nat, o0.length ≤ 2 * a + 1 → revA o0 a = o0.reverse := by
        intro a ha
        symm
        refine revA_ext (by simp) fun t ht => ?_
        have e : o0.reverse.getD t 0 = o0.getD (o0.length - 1 - t) 0 := by
          rw [getD_of 0 (by simpa using ht), List.getElem_reverse, getD_of 0 (by omega)]
        rw [e]
        split
        · rfl
        · have : o0.length - 1 - t = t := by omega
          rw [this]
      intro d
      induction d with
      | zero =>
        intro a ha
        show s_slices_Reverse_int_int_1 _ _ _ _ _ = _
        unfold s_slices_Reverse_int_int_1
        rw [br_neg (by omega), fin a (by omega)]
      | succ d ih =>
        intro a ha
        show s_slices_Reverse_int_int_1 _ _ _ _ _ = _
        unfold s_slices_Reverse_int_int_1
        by_cases c : (a : Int) < (o0.length : Int) - 1 - (a : Int)
        · have e1 : ((o0.length : Int) - 1 - (a : Int)).toNat = o0.length - 1 - a := by omega
          rw [br_pos c, revA_len, List.length_set, revA_len, br_pos (by omega), br_pos (by omega), br_pos (by omega), br_pos (by omega), wr _ (by omega) (by omega), wr _ (by omega) (by omega), Int.toNat_natCast, e1]
          have e2 : ((revA o0 a).set a ((revA o0 a).getD (o0.length - 1 - a) 0)).set (o0.length - 1 - a) ((revA o0 a).getD a 0) = revA o0 (a + 1) := by
            refine revA_ext (by simp [revA_len]) fun t ht => ?_
            rw [getD_set, getD_set, List.length_set, revA_len, revA_get _ _ _ ht, revA_get _ _ _ (show a < o0.length by omega), revA_get _ _ _ (show o0.length - 1 - a < o0.length by omega)]
            by_cases c1 : o0.length - 1 - a = t
            · rw [if_pos ⟨c1, by omega⟩, if_neg (by omega), if_pos (by omega)]
              congr 1
              omega
            · rw [if_neg (by omega)]
              by_cases c2 : a = t
              · rw [if_pos ⟨c2, by omega⟩, if_neg (by omega), if_pos (by omega), c2]
              · rw [if_neg (by omega)]
                by_cases c3 : t < a ∨ o0.length - a ≤ t
                · rw [if_pos c3, if_pos (by omega)]
                · rw [if_neg c3, if_neg (by omega)]
          rw [e2]
          have e3 : (o0.length : Int) - 1 - (a : Int) - 1 = (o0.length : Int) - 1 - ((a + 1 : Nat) : Int) := by omega
          rw [e3]
          exact ih (a + 1) (by omega)
        · rw [br_neg c, fin a (by omega)]
    have e0 : revA o0 0 = o0 := by
      symm
      refine revA_ext rfl fun t ht => ?_
      rw [if_neg (by omega)]
    have := key o0.length 0 (by omega)
    rw [e0] at this
    unfold e_slices_Reverse_int_int
    rw [wr _ (by omega) (by omega)]
    simpa using this
  · cases h

/-- tutor/word.At -/
def s_word_At_10 {R : Type} (g29_10 : Int → Int → (List Int) → Option R) (K0 : Int → (List Int) → Option R) (K1 : Int → (List Int) → Option R) (k : Int) (i : Int) (o0 : List Int) : Option R :=
  bi (decide (i > 0))
   (bi (decide (k = 0))
    none
    (bi (decide ((o0.length + [(IntKind.i64.wrap (i - 1)).tmod k].length) * 8 ≤ lim))
     (bi (decide (k = 0))
      none
      (g29_10 k (IntKind.i64.wrap ((IntKind.i64.wrap (i - 1)).tdiv k)) (o0 ++ [(IntKind.i64.wrap (i - 1)).tmod k])))
     none))
   (l_slices_Reverse_int_int o0
    (fun r2 =>
     K1 0 r2))

/-- tutor/word.At -/
def e_word_At {R : Type} (g29_10 : Int → Int → (List Int) → Option R) (K0 : Int → (List Int) → Option R) (K1 : Int → (List Int) → Option R) (k : Int) (i : Int) : Option R :=
  l_word_alphabet k
   (fun r1 =>
    bi (!r1)
     (K0 1 ([] : List Int))
     (bi (decide (i < 0))
      (K0 1 ([] : List Int))
      (bi (decide (i > 1099511627776))
       (K0 11 ([] : List Int))
       (bi (k == 1)
        (bi (decide (i > 4096))
         (K0 2 ([] : List Int))
         (bi (k == 1)
          (bi (decide (0 ≤ i ∧ i ≤ i ∧ i ≤ 1073741824))
           (K0 0 (List.replicate i.toNat (0 : Int)))
           none)
          (g29_10 k i ([] : List Int))))
        (bi (k == 1)
         (bi (decide (0 ≤ i ∧ i ≤ i ∧ i ≤ 1073741824))
          (K0 0 (List.replicate i.toNat (0 : Int)))
          none)
         (g29_10 k i ([] : List Int)))))))

def run_word_At {R : Type} (K0 : Int → (List Int) → Option R) (K1 : Int → (List Int) → Option R) : Nat → Int → Int → (List Int) → Option R
  | 0 => fun _ _ _ => none
  | n + 1 => s_word_At_10 (run_word_At K0 K1 n) K0 K1

def l_word_At {R : Type} (k : Int) (i : Int) (K0 : Int → (List Int) → Option R) (K1 : Int → (List Int) → Option R) : Option R :=
  if atE k i ≠ 0 then K0 (atE k i) [] else if k = 1 then K0 0 (atS k i) else K1 0 (atS k i)

theorem ok_word_At {R : Type} (k : Int) (i : Int) (K0 : Int → (List Int) → Option R) (K1 : Int → (List Int) → Option R) {r : R} (h : l_word_At k i K0 K1 = some r) : ∃ fuel, e_word_At (run_word_At K0 K1 fuel) K0 K1 k i = some r := by
  refine ⟨i.toNat + 1, ?_⟩
  rw [← h]
  unfold l_word_At e_word_At
  rw [alpha_eq]
  by_cases h1 : 1 ≤ k ∧ k ≤ 64
  · rw [decide_eq_true h1]
    show bi false _ _ = _
    rw [br_ff]
    by_cases h2 : i < 0
    · rw [br_pos h2, atE_bad (by omega)]
      rfl
    · rw [br_neg h2]
      by_cases h3 : i > 1099511627776
      · rw [br_pos h3, atE_over h1 h3]
        rfl
      · rw [br_neg h3]
        by_cases h4 : k = 1
        · rw [br_eq h4]
          by_cases h5 : i > 4096
          · rw [br_pos h5, atE_long h4 h3 h5]
            rfl
          · rw [br_neg h5, br_eq h4, br_pos (by omega), atE_ok h1 (by omega) h3 (by omega)]
            simp only [ne_eq, not_true_eq_false, if_false]
            rw [if_pos h4, atS, if_pos h4]
        · rw [br_eq' h4, br_eq' h4, atE_ok h1 (by omega) h3 (by omega)]
          simp only [ne_eq, not_true_eq_false, if_false]
          rw [if_neg h4, atS, if_neg h4]
          have key : ∀ (f : Nat) (x : Int) (o0 : List Int), 0 ≤ x → x ≤ (f : Int) → (o0.length : Int) + x ≤ 1099511627776 → run_word_At K0 K1 (f + 1) k x o0 = K1 0 (o0 ++ digR k f x).reverse := by
            intro f
            induction f with
            | zero =>
              intro x o0 hx0 hx1 hb
              show s_word_At_10 _ _ _ _ _ _ = _
              unfold s_word_At_10
              rw [br_neg (by omega)]
              unfold l_slices_Reverse_int_int
              rw [br_pos (by unfold short; omega)]
              simp [digR]
            | succ f ih =>
              intro x o0 hx0 hx1 hb
              show s_word_At_10 _ _ _ _ _ _ = _
              unfold s_word_At_10
              by_cases c : x > 0
              · have e1 : (x - 1).tmod k = (x - 1) % k := Int.tmod_eq_emod_of_nonneg (by omega)
                have e2 : (x - 1).tdiv k = (x - 1) / k := Int.tdiv_eq_ediv_of_nonneg (by omega)
                have hq : 0 ≤ (x - 1) / k := Int.ediv_nonneg (by omega) (by omega)
                have hle : (x - 1) / k ≤ x - 1 := Int.ediv_le_self _ (by omega)
                rw [br_pos c, br_neg (by omega), br_pos (by simp [lim]; omega), br_neg (by omega), wr (x - 1) (by omega) (by omega), e1, e2, wr _ (by omega) (by omega)]
                rw [ih _ _ hq (by omega) (by simp; omega)]
                simp only [digR]
                rw [if_pos c, List.append_assoc, List.singleton_append]
              · rw [br_neg c]
                unfold l_slices_Reverse_int_int
                rw [br_pos (by unfold short; omega)]
                simp only [digR]
                rw [if_neg c, List.append_nil]
          exact key i.toNat i [] (by omega) (by omega) (by simp; omega)
  · rw [decide_eq_false h1, atE_bad (by omega)]
    rfl

theorem at_same {R : Type} (k i : Int) (K : Int → List Int → Option R) : l_word_At k i K K = K (atE k i) (if atE k i ≠ 0 then [] else atS k i) := by
  unfold l_word_At
  by_cases h : atE k i = 0
  · have e : (if atE k i ≠ 0 then [] else atS k i) = atS k i := if_neg (by simpa using h)
    rw [if_neg (by simpa using h), e, h]
    split <;> rfl
  · have e : (if atE k i ≠ 0 then [] else atS k i) = [] := if_pos h
    rw [if_pos h, e]

/-- tutor/tutorlaw01.num -/
def l_tutorlaw01_num {R : Type} (e : Int) (K0 : Int → Option R) : Option R :=
  K0 e

/-- tutor/word.Check -/
def s_word_Check_6 {R : Type} (g13_6 : (List Int) → Int → Int → Int → Option R) (K0 : Int → Int → Option R) (w : List Int) (k : Int) (x16 : Int) (x17 : Int) : Option R :=
  bi (decide (x17 < x16))
   (bi (decide (0 ≤ x17 ∧ x17 < ((w.length : Nat) : Int)))
    (bi (decide ((w.getD x17.toNat 0) < 0))
     (K0 x17 10)
     (bi (decide (0 ≤ x17 ∧ x17 < ((w.length : Nat) : Int)))
      (bi (decide ((w.getD x17.toNat 0) ≥ k))
       (K0 x17 10)
       (g13_6 w k x16 (IntKind.i64.wrap (x17 + 1))))
      none))
    none)
   (K0 0 0)

/-- tutor/word.Check -/
def e_word_Check {R : Type} (g13_6 : (List Int) → Int → Int → Int → Option R) (K0 : Int → Int → Option R) (w : List Int) (k : Int) : Option R :=
  l_word_alphabet k
   (fun r1 =>
    bi (!r1)
     (K0 0 1)
     (bi (decide ((w.length : Int) > 4096))
      (K0 0 2)
      (g13_6 w k (w.length : Int) 0)))

def run_word_Check {R : Type} (K0 : Int → Int → Option R) : Nat → (List Int) → Int → Int → Int → Option R
  | 0 => fun _ _ _ _ => none
  | n + 1 => s_word_Check_6 (run_word_Check K0 n) K0

def l_word_Check {R : Type} (w : List Int) (k : Int) (K0 : Int → Int → Option R) : Option R := K0 (wordS k w).1 (wordS k w).2

theorem ok_word_Check {R : Type} (w : List Int) (k : Int) (K0 : Int → Int → Option R) {r : R} (h : l_word_Check w k K0 = some r) : ∃ fuel, e_word_Check (run_word_Check K0 fuel) K0 w k = some r := by
  refine ⟨w.length + 1, ?_⟩
  rw [← h]
  unfold l_word_Check e_word_Check l_word_alphabet wordS
  by_cases h1 : 1 ≤ k
  · rw [br_pos (by omega)]
    by_cases h2 : k ≤ 64
    · rw [decide_eq_true h2, if_neg (by omega)]
      show bi false _ _ = _
      rw [br_ff]
      by_cases h3 : w.length > 4096
      · rw [br_pos (by omega), if_pos h3]
      · rw [br_neg (by omega), if_neg h3]
        have key := scan_all (F := fun m i => run_word_Check K0 m w k (w.length : Int) (i : Int)) (outside k) (l := w) (A := fun i => K0 i 10) (B := K0 0 0)
          (fun m => by
            show s_word_Check_6 _ _ _ _ _ _ = _
            unfold s_word_Check_6
            rw [br_neg (by omega)])
          (fun m i hi => by
            show s_word_Check_6 _ _ _ _ _ _ = _
            unfold s_word_Check_6
            rw [br_pos (by omega), br_pos (by omega), br_pos (p := 0 ≤ (i : Int) ∧ (i : Int) < ((w.length : Nat) : Int)) (by omega), Int.toNat_natCast, getD_of 0 hi, wr _ (by omega) (by omega)]
            unfold outside
            cases decide (w[i] < 0) <;> cases decide (w[i] ≥ k) <;> rfl)
        refine key.trans ?_
        cases findP (outside k) w <;> rfl
    · rw [decide_eq_false h2, if_pos (by omega)]
      rfl
  · rw [br_neg (by omega), if_pos (by omega)]
    rfl

/-- tutor/word.counter -/
def l_word_counter {R : Type} (n : Int) (K0 : Bool → Option R) : Option R :=
  bi (decide (n ≥ 0))
   (K0 (decide (n ≤ 1099511627776)))
   (K0 false)

theorem counter_eq {R : Type} (n : Int) (K0 : Bool → Option R) : l_word_counter n K0 = K0 (decide (¬ badC n)) := by
  unfold l_word_counter badC maxC
  by_cases h : n ≥ 0
  · rw [br_pos h]
    congr 1
    rw [decide_eq_decide]
    omega
  · rw [br_neg h, decide_eq_false (by omega)]

/-- tutor/word.Mul -/
def l_word_Mul {R : Type} (a : Int) (b : Int) (K0 : Int → Int → Option R) : Option R :=
  l_word_counter a
   (fun r1 =>
    bi (!r1)
     (K0 0 1)
     (l_word_counter b
      (fun r2 =>
       bi (!r2)
        (K0 0 1)
        (bi (decide (b > 0))
         (bi (decide (b = 0))
          none
          (bi (decide (a > (IntKind.i64.wrap ((1099511627776 : Int).tdiv b))))
           (K0 0 11)
           (K0 (IntKind.i64.wrap (a * b)) 0)))
         (K0 (IntKind.i64.wrap (a * b)) 0)))))

theorem mulC {a b : Int} (h1 : ¬ badC a) (h2 : ¬ badC b) : 0 ≤ a * b ∧ a * b ≤ 1208925819614629174706176 := by
  unfold badC maxC at h1 h2
  have h3 := Int.mul_nonneg (show 0 ≤ a by omega) (show 0 ≤ b by omega)
  have h4 : a * b ≤ 1099511627776 * b := Int.mul_le_mul_of_nonneg_right (by omega) (by omega)
  omega
theorem mul_eq {R : Type} {a b : Int} (K0 : Int → Int → Option R) : l_word_Mul a b K0 = K0 (mulS a b).1 (mulS a b).2 := by
  unfold l_word_Mul mulS
  rw [counter_eq]
  by_cases h1 : badC a
  · rw [decide_eq_false (by simpa using h1), if_pos (.inl h1)]
    rfl
  · rw [decide_eq_true h1, counter_eq]
    show bi false _ _ = _
    rw [br_ff]
    by_cases h2 : badC b
    · rw [decide_eq_false (by simpa using h2), if_pos (.inr h2)]
      rfl
    · rw [decide_eq_true h2, if_neg (by simp [h1, h2])]
      show bi false _ _ = _
      rw [br_ff]
      unfold badC maxC at h1 h2
      unfold maxC
      by_cases hb : b > 0
      · rw [br_pos hb, br_neg (by omega)]
        have e : (1099511627776 : Int).tdiv b = 1099511627776 / b := Int.tdiv_eq_ediv_of_nonneg (by omega)
        have hle : 1099511627776 / b ≤ 1099511627776 := Int.ediv_le_self _ (by omega)
        have hge : 0 ≤ 1099511627776 / b := Int.ediv_nonneg (by omega) (by omega)
        have hiff : 1099511627776 / b < a ↔ 1099511627776 < a * b := Int.ediv_lt_iff_lt_mul hb
        rw [e, wr _ (by omega) (by omega)]
        by_cases h3 : a * b > 1099511627776
        · rw [br_pos (by omega), if_pos h3]
        · have := Int.mul_nonneg (show 0 ≤ a by omega) (show 0 ≤ b by omega)
          rw [br_neg (by omega), if_neg h3, wr _ (by omega) (by omega)]
      · have : b = 0 := by omega
        subst this
        rw [br_neg hb]
        simp only [Int.mul_zero]
        rw [if_neg (by omega), wr _ (by omega) (by omega)]

/-- tutor/word.Add -/
def l_word_Add {R : Type} (a : Int) (b : Int) (K0 : Int → Int → Option R) : Option R :=
  l_word_counter a
   (fun r1 =>
    bi (!r1)
     (K0 0 1)
     (l_word_counter b
      (fun r2 =>
       bi (!r2)
        (K0 0 1)
        (bi (decide (a > (IntKind.i64.wrap (1099511627776 - b))))
         (K0 0 11)
         (K0 (IntKind.i64.wrap (a + b)) 0)))))

theorem add_eq {R : Type} {a b : Int} (ha : inI a) (hb : inI b) (K0 : Int → Int → Option R) : l_word_Add a b K0 = K0 (addC a b).1 (addC a b).2 := by
  unfold l_word_Add addC
  rw [counter_eq]
  by_cases h1 : badC a
  · rw [decide_eq_false (by simpa using h1), if_pos (.inl h1)]
    rfl
  · rw [decide_eq_true h1, counter_eq]
    show bi false _ _ = _
    rw [br_ff]
    by_cases h2 : badC b
    · rw [decide_eq_false (by simpa using h2), if_pos (.inr h2)]
      rfl
    · rw [decide_eq_true h2, if_neg (by simp [h1, h2])]
      show bi false _ _ = _
      unfold badC maxC at h1 h2
      rw [br_ff, wr _ (by omega) (by omega)]
      unfold maxC
      by_cases h3 : a + b > 1099511627776
      · rw [br_pos (by omega), if_pos h3]
      · rw [br_neg (by omega), if_neg h3, wr _ (by omega) (by omega)]

/-- tutor/word.Rank -/
def s_word_Rank_6 {R : Type} (g31_6 : Int → Int → (List Int) → Int → Int → Option R) (K0 : Int → Int → Option R) (k : Int) (n : Int) (x22 : List Int) (x23 : Int) (x24 : Int) : Option R :=
  bi (decide (x24 < x23))
   (bi (decide (0 ≤ x24 ∧ x24 < ((x22.length : Nat) : Int)))
    (l_word_Mul n k
     (fun r3 r4 =>
      bi (r4 == 0)
       (l_word_Add r3 (IntKind.i64.wrap ((x22.getD x24.toNat 0) + 1))
        (fun r5 r6 =>
         bi (r6 != 0)
          (K0 0 11)
          (g31_6 k r5 x22 x23 (IntKind.i64.wrap (x24 + 1)))))
       (bi (r4 != 0)
        (K0 0 11)
        (g31_6 k r3 x22 x23 (IntKind.i64.wrap (x24 + 1))))))
    none)
   (K0 n 0)

/-- tutor/word.Rank -/
def e_word_Rank {R : Type} (g31_6 : Int → Int → (List Int) → Int → Int → Option R) (K0 : Int → Int → Option R) (w : List Int) (k : Int) : Option R :=
  l_word_Check w k
   (fun r1 r2 =>
    bi (r2 != 0)
     (K0 0 r2)
     (g31_6 k 0 w (w.length : Int) 0))

def run_word_Rank {R : Type} (K0 : Int → Int → Option R) : Nat → Int → Int → (List Int) → Int → Int → Option R
  | 0 => fun _ _ _ _ _ => none
  | n + 1 => s_word_Rank_6 (run_word_Rank K0 n) K0

def l_word_Rank {R : Type} (w : List Int) (k : Int) (K0 : Int → Int → Option R) : Option R := K0 (rankR k w).1 (rankR k w).2

theorem ok_word_Rank {R : Type} (w : List Int) (k : Int) (K0 : Int → Int → Option R) {r : R} (h : l_word_Rank w k K0 = some r) : ∃ fuel, e_word_Rank (run_word_Rank K0 fuel) K0 w k = some r := by
  refine ⟨w.length + 1, ?_⟩
  rw [← h]
  unfold l_word_Rank rankR e_word_Rank l_word_Check
  dsimp only
  by_cases he : (wordS k w).2 = 0
  · obtain ⟨hk, hl, hv⟩ := wordS_zero.1 he
    rw [br_ne' he, if_neg (by omega)]
    have key : ∀ (d i : Nat) (n : Int), i + d = w.length → 0 ≤ n → n ≤ 1099511627776 → run_word_Rank K0 (d + 1) k n w (w.length : Int) (i : Int) = if rankFrom k n (w.drop i) > maxC then K0 0 11 else K0 (rankFrom k n (w.drop i)) 0 := by
      intro d
      induction d with
      | zero =>
        intro i n hi h0 h1
        show s_word_Rank_6 _ _ _ _ _ _ _ = _
        unfold s_word_Rank_6
        rw [br_neg (by omega), List.drop_eq_nil_of_le (by omega), if_neg (by unfold maxC; show ¬ n > _; omega)]
        rfl
      | succ d ih =>
        intro i n hi h0 h1
        have hlt : i < w.length := by omega
        have hx := hv w[i] (List.getElem_mem hlt)
        have hb1 : ¬ badC n := by unfold badC maxC; omega
        have hb2 : ¬ badC k := by unfold badC maxC; omega
        have hnk : 0 ≤ n * k := Int.mul_nonneg h0 (by omega)
        have hval : validW k (w.drop (i + 1)) := fun y hy => hv y (List.mem_of_mem_drop hy)
        have hge := rankFrom_ge hk.1 (w.drop (i + 1)) (n * k + w[i] + 1) (by omega) hval
        rw [List.drop_eq_getElem_cons hlt, rankFrom_cons]
        show s_word_Rank_6 _ _ _ _ _ _ _ = _
        unfold s_word_Rank_6
        rw [br_pos (by omega), br_pos (by omega), mul_eq]
        unfold mulS
        rw [if_neg (by simp [hb1, hb2]), Int.toNat_natCast, getD_of 0 hlt]
        by_cases c1 : n * k > maxC
        · rw [if_pos c1, br_eq' (by decide), br_ne (by decide), if_pos (by omega)]
        · unfold maxC at c1
          rw [if_neg (by unfold maxC; omega), br_eq rfl, wr (w[i] + 1) (by omega) (by omega), add_eq (by unfold inI; omega) (by unfold inI; omega)]
          unfold addC
          rw [if_neg (by unfold badC maxC; omega)]
          by_cases c2 : n * k + (w[i] + 1) > maxC
          · rw [if_pos c2, br_ne (by decide), if_pos (by omega)]
          · unfold maxC at c2
            have e : n * k + (w[i] + 1) = n * k + w[i] + 1 := by omega
            rw [if_neg (by unfold maxC; omega), br_ne' rfl, wr ((i : Int) + 1) (by omega) (by omega), e]
            exact ih (i + 1) (n * k + w[i] + 1) (by omega) (by omega) (by omega)
    refine (key w.length 0 0 (by omega) (by omega) (by omega)).trans ?_
    rw [List.drop_zero]
    have e : ∀ x : Int, (if x > maxC then K0 0 11 else K0 x 0) = K0 (if x > maxC then ((0 : Int), (11 : Int)) else (x, 0)).1 (if x > maxC then ((0 : Int), (11 : Int)) else (x, 0)).2 := by
      intro x
      split <;> rfl
    exact e _
  · rw [br_ne he, if_pos he]

/-- slices.Clone[[]int,int] -/
def l_slices_Clone_int_int {R : Type} (s : List Int) (K0 : List Int → Option R) : Option R :=
  bi (decide (s.length * 8 ≤ lim)) (K0 s) none

/-- tutor/word.Next -/
def s_word_Next_6 {R : Type} (g20_6 : (List Int) → Int → Int → (List Int) → Option R) (K0 : Int → (List Int) → Option R) (w : List Int) (k : Int) (i : Int) (o0 : List Int) : Option R :=
  bi (decide (i ≥ 0))
   (bi (decide (0 ≤ i ∧ i < ((o0.length : Nat) : Int)))
    (bi (decide (0 ≤ i ∧ i < ((o0.length : Nat) : Int)))
     (bi (decide (0 ≤ i ∧ i < (((o0.set i.toNat (IntKind.i64.wrap ((o0.getD i.toNat 0) + 1))).length : Nat) : Int)))
      (bi (decide (((o0.set i.toNat (IntKind.i64.wrap ((o0.getD i.toNat 0) + 1))).getD i.toNat 0) < k))
       (K0 0 (o0.set i.toNat (IntKind.i64.wrap ((o0.getD i.toNat 0) + 1))))
       (bi (decide (0 ≤ i ∧ i < (((o0.set i.toNat (IntKind.i64.wrap ((o0.getD i.toNat 0) + 1))).length : Nat) : Int)))
        (g20_6 w k (IntKind.i64.wrap (i - 1)) ((o0.set i.toNat (IntKind.i64.wrap ((o0.getD i.toNat 0) + 1))).set i.toNat 0))
        none))
      none)
     none)
    none)
   (bi ((w.length : Int) == 4096)
    (K0 2 ([] : List Int))
    (bi (decide ((o0.length + [0].length) * 8 ≤ lim))
     (K0 0 (o0 ++ [0]))
     none))

/-- tutor/word.Next -/
def e_word_Next {R : Type} (g20_6 : (List Int) → Int → Int → (List Int) → Option R) (K0 : Int → (List Int) → Option R) (w : List Int) (k : Int) : Option R :=
  l_word_Check w k
   (fun r1 r2 =>
    bi (r2 != 0)
     (K0 r2 ([] : List Int))
     (l_slices_Clone_int_int w
      (fun r3 =>
       g20_6 w k (IntKind.i64.wrap ((r3.length : Int) - 1)) r3)))

def run_word_Next {R : Type} (K0 : Int → (List Int) → Option R) : Nat → (List Int) → Int → Int → (List Int) → Option R
  | 0 => fun _ _ _ _ => none
  | n + 1 => s_word_Next_6 (run_word_Next K0 n) K0

def l_word_Next {R : Type} (w : List Int) (k : Int) (K0 : Int → (List Int) → Option R) : Option R := K0 (nextS k w).1 (nextS k w).2

theorem lastS_len (k : Int) (w : List Int) : ∀ i, i ≤ w.length → (lastS k w i).length = w.length ∨ (lastS k w i).length = w.length + 1
  | 0, _ => by simp [lastS]
  | i + 1, h => by
    simp only [lastS]
    split
    · left
      simp only [List.length_append, List.length_take, List.length_cons, List.length_nil, List.length_replicate]
      omega
    · exact lastS_len k w i (by omega)

theorem set_mid {l1 l2 : List Int} {x y : Int} {i : Nat} (h : l1.length = i) : (l1 ++ [x] ++ l2).set i y = l1 ++ [y] ++ l2 := by
  subst h
  simp

theorem get_mid {l1 l2 : List Int} {x : Int} {i : Nat} (h : l1.length = i) : (l1 ++ [x] ++ l2).getD i 0 = x := by
  subst h
  simp [List.getD_eq_getElem?_getD]

theorem ok_word_Next {R : Type} (w : List Int) (k : Int) (K0 : Int → (List Int) → Option R) {r : R} (h : l_word_Next w k K0 = some r) : ∃ fuel, e_word_Next (run_word_Next K0 fuel) K0 w k = some r := by
  refine ⟨w.length + 1, ?_⟩
  rw [← h]
  unfold l_word_Next nextS e_word_Next l_word_Check
  dsimp only
  by_cases he : (wordS k w).2 = 0
  · obtain ⟨hk, hl, hv⟩ := wordS_zero.1 he
    rw [br_ne' he, if_neg (by omega)]
    unfold l_slices_Clone_int_int
    rw [br_pos (by unfold lim; omega)]
    have key : ∀ i, i ≤ w.length → run_word_Next K0 (i + 1) w k ((i : Int) - 1) (w.take i ++ List.replicate (w.length - i) 0) = if (lastS k w i).length > 4096 then K0 2 [] else K0 0 (lastS k w i) := by
      intro i
      induction i with
      | zero =>
        intro _
        show s_word_Next_6 _ _ _ _ _ _ = _
        unfold s_word_Next_6
        simp only [List.take_zero, List.nil_append, Nat.sub_zero, lastS, List.length_replicate]
        rw [br_neg (by omega)]
        by_cases hw : w.length = 4096
        · rw [br_eq (by omega), if_pos (by omega)]
        · rw [br_eq' (by omega), br_pos (by simp [lim]; omega), if_neg (by omega), List.replicate_succ']
      | succ i ih =>
        intro hi
        have hlt : i < w.length := by omega
        have hx := hv w[i] (List.getElem_mem hlt)
        have e0 : w.take (i + 1) ++ List.replicate (w.length - (i + 1)) 0 = w.take i ++ [w[i]] ++ List.replicate (w.length - (i + 1)) 0 := by
          rw [List.take_add_one, List.getElem?_eq_getElem hlt]
          rfl
        have ht : (w.take i).length = i := by rw [List.length_take]; omega
        have hlen : ∀ x : Int, (w.take i ++ [x] ++ List.replicate (w.length - (i + 1)) 0).length = w.length := by
          intro x
          simp only [List.length_append, List.length_cons, List.length_nil, List.length_replicate, ht]
          omega
        rw [e0]
        have ei : ((i + 1 : Nat) : Int) - 1 = (i : Int) := by omega
        rw [ei]
        show s_word_Next_6 _ _ _ _ _ _ = _
        unfold s_word_Next_6
        simp only [Int.toNat_natCast, get_mid ht, set_mid ht, hlen]
        rw [br_pos (by omega), br_pos (by omega), br_pos (by omega), br_pos (by omega), wr (w[i] + 1) (by omega) (by omega)]
        simp only [lastS, getD_of 0 hlt]
        by_cases hc : w[i] + 1 < k
        · have e2 : w.length - i - 1 = w.length - (i + 1) := by omega
          rw [br_pos hc, if_pos (show w[i] < k - 1 by omega), e2, hlen, if_neg (by omega)]
        · have e3 : w.take i ++ [0] ++ List.replicate (w.length - (i + 1)) 0 = w.take i ++ List.replicate (w.length - i) 0 := by
            rw [List.append_assoc, List.singleton_append, ← List.replicate_succ]
            congr 2
            omega
          rw [br_neg hc, if_neg (show ¬ w[i] < k - 1 by omega), br_pos (by omega), wr _ (by omega) (by omega), e3]
          exact ih (by omega)
    have := key w.length (Nat.le_refl _)
    rw [List.take_length, Nat.sub_self, List.replicate_zero, List.append_nil] at this
    dsimp only
    rw [wr _ (by omega) (by omega), this]
    unfold afterS
    split <;> rfl
  · rw [br_ne he, if_pos he]

/-- tutor/word.Count -/
def s_word_Count_7 {R : Type} (g27_7 : Int → Int → Int → Int → Option R) (K0 : Int → Int → Option R) (k : Int) (sum : Int) (x23 : Int) (x24 : Int) : Option R :=
  bi (decide (x24 < x23))
   (l_word_Mul sum k
    (fun r4 r5 =>
     bi (r5 == 0)
      (l_word_Add r4 1
       (fun r6 r7 =>
        bi (r7 != 0)
         (K0 0 r7)
         (g27_7 k r6 x23 (IntKind.i64.wrap (x24 + 1)))))
      (bi (r5 != 0)
       (K0 0 r5)
       (g27_7 k r4 x23 (IntKind.i64.wrap (x24 + 1))))))
   (K0 sum 0)

/-- tutor/word.Count -/
def e_word_Count {R : Type} (g27_7 : Int → Int → Int → Int → Option R) (K0 : Int → Int → Option R) (k : Int) (n : Int) : Option R :=
  l_word_alphabet k
   (fun r1 =>
    bi (!r1)
     (K0 0 1)
     (bi (decide (n < 0))
      (K0 0 1)
      (bi (k == 1)
       (l_word_Add (if 1099511627776 < n then 1099511627776 else n) 1
        (fun r2 r3 =>
         K0 r2 r3))
       (g27_7 k 1 n 0))))

def run_word_Count {R : Type} (K0 : Int → Int → Option R) : Nat → Int → Int → Int → Int → Option R
  | 0 => fun _ _ _ _ => none
  | n + 1 => s_word_Count_7 (run_word_Count K0 n) K0

def l_word_Count {R : Type} (k : Int) (n : Int) (K0 : Int → Int → Option R) : Option R := bi (decide (inI n)) (K0 (countS k n).1 (countS k n).2) none

theorem ok_word_Count {R : Type} (k : Int) (n : Int) (K0 : Int → Int → Option R) {r : R} (h : l_word_Count k n K0 = some r) : ∃ fuel, e_word_Count (run_word_Count K0 fuel) K0 k n = some r := by
  unfold l_word_Count at h
  rcases bi_some h with ⟨hs, h⟩ | ⟨_, h⟩
  · obtain ⟨hn1, hn2⟩ : -9223372036854775808 ≤ n ∧ n ≤ 9223372036854775807 := of_decide_eq_true hs
    refine ⟨n.toNat + 1, ?_⟩
    rw [← h]
    unfold e_word_Count
    rw [alpha_eq]
    by_cases h1 : 1 ≤ k ∧ k ≤ 64
    · rw [decide_eq_true h1]
      show bi false _ _ = _
      rw [br_ff]
      by_cases h2 : n < 0
      · rw [br_pos h2, countS_bad (by omega)]
      · rw [br_neg h2]
        by_cases h3 : k = 1
        · have hi : inI (if 1099511627776 < n then 1099511627776 else n) := by unfold inI; split <;> omega
          rw [br_eq h3, countS_one h2 h3, add_eq hi (by unfold inI; omega)]
          by_cases h5 : n ≥ maxC
          · have e : addC (if 1099511627776 < n then 1099511627776 else n) 1 = (0, 11) := by
              unfold maxC at h5
              unfold addC
              have e0 : (if 1099511627776 < n then 1099511627776 else n) = 1099511627776 := by split <;> omega
              rw [e0]
              decide
            rw [e, if_pos h5]
          · have e : addC (if 1099511627776 < n then 1099511627776 else n) 1 = (n + 1, 0) := by
              unfold maxC at h5
              unfold addC badC maxC
              rw [if_neg (show ¬ 1099511627776 < n by omega), if_neg (by omega), if_neg (by omega)]
            rw [e, if_neg h5]
        · rw [br_eq' h3, countS_more h1 h2 h3]
          have key : ∀ (d : Nat) (x sum : Int), x + (d : Int) = n → 0 ≤ x → 1 ≤ sum → sum ≤ 1099511627776 → run_word_Count K0 (d + 1) k sum n x = K0 (countP k sum d).1 (countP k sum d).2 := by
            intro d
            induction d with
            | zero =>
              intro x sum hx _ _ _
              show s_word_Count_7 _ _ _ _ _ _ = _
              unfold s_word_Count_7
              rw [br_neg (by omega)]
              rfl
            | succ d ih =>
              intro x sum hx hx0 hs1 hs2
              have hb1 : ¬ badC sum := by unfold badC maxC; omega
              have hb2 : ¬ badC k := by unfold badC maxC; omega
              have hm := mulC hb1 hb2
              have hsk : sum * 2 ≤ sum * k := Int.mul_le_mul_of_nonneg_left (by omega) (by omega)
              show s_word_Count_7 _ _ _ _ _ _ = _
              unfold s_word_Count_7
              rw [br_pos (by omega), mul_eq]
              unfold mulS
              rw [if_neg (by simp [hb1, hb2])]
              simp only [countP]
              by_cases c1 : sum * k > maxC
              · rw [if_pos c1, if_pos (by omega), br_eq' (by decide), br_ne (by decide)]
              · unfold maxC at c1
                rw [if_neg (by unfold maxC; omega), br_eq rfl, add_eq (by unfold inI; omega) (by unfold inI; omega)]
                unfold addC
                rw [if_neg (by unfold badC maxC; omega)]
                by_cases c2 : sum * k + 1 > maxC
                · rw [if_pos c2, if_pos c2, br_ne (by decide)]
                · unfold maxC at c2
                  rw [if_neg (by unfold maxC; omega), if_neg (by unfold maxC; omega), br_ne' rfl, wr (x + 1) (by omega) (by omega)]
                  exact ih (x + 1) (sum * k + 1) (by omega) (by omega) (by omega) (by omega)
          exact key n.toNat 0 1 (by omega) (by omega) (by omega) (by omega)
    · rw [decide_eq_false h1, countS_bad (by omega)]
      rfl
  · cases h

theorem count_eq {R : Type} (k : Int) {n : Int} (hn : inI n) (K0 : Int → Int → Option R) : l_word_Count k n K0 = K0 (countS k n).1 (countS k n).2 := by
  unfold l_word_Count
  rw [br_pos hn]

/-- cmp.isNaN[int] -/
def l_cmp_isNaN_int {R : Type} (x : Int) (K0 : Bool → Option R) : Option R :=
  K0 (x != x)

/-- cmp.Compare[int] -/
def l_cmp_Compare_int {R : Type} (x : Int) (y : Int) (K0 : Int → Option R) : Option R :=
  l_cmp_isNaN_int x
   (fun r1 =>
    l_cmp_isNaN_int y
     (fun r2 =>
      bi r1
       (bi r2
        (K0 0)
        (K0 (-1)))
       (bi r2
        (K0 1)
        (bi (decide (x < y))
         (K0 (-1))
         (bi (decide (x > y))
          (K0 1)
          (K0 0))))))

theorem cmp_eq {R : Type} (x y : Int) (K0 : Int → Option R) : l_cmp_Compare_int x y K0 = K0 (cmpI x y) := by
  unfold l_cmp_Compare_int l_cmp_isNaN_int cmpI
  dsimp only
  rw [br_ne' rfl, br_ne' rfl]
  by_cases h1 : x < y
  · rw [br_pos h1, if_pos h1]
  · by_cases h2 : x > y
    · rw [br_neg h1, br_pos h2, if_neg h1, if_pos h2]
    · rw [br_neg h1, br_neg h2, if_neg h1, if_neg h2]

/-- slices.Compare[[]int,int] -/
def s_slices_Compare_int_int_2 {R : Type} (g43_2 : (List Int) → (List Int) → (List Int) → Int → Int → Option R) (K0 : Int → Option R) (s1 : List Int) (s2 : List Int) (x9 : List Int) (x10 : Int) (x11 : Int) : Option R :=
  bi (decide (x11 < x10))
   (bi (decide (0 ≤ x11 ∧ x11 < ((x9.length : Nat) : Int)))
    (bi (decide (x11 ≥ (s2.length : Int)))
     (K0 1)
     (bi (decide (0 ≤ x11 ∧ x11 < ((s2.length : Nat) : Int)))
      (l_cmp_Compare_int (x9.getD x11.toNat 0) (s2.getD x11.toNat 0)
       (fun r1 =>
        bi (r1 != 0)
         (K0 r1)
         (g43_2 s1 s2 x9 x10 (IntKind.i64.wrap (x11 + 1)))))
      none))
    none)
   (bi (decide ((s1.length : Int) < (s2.length : Int)))
    (K0 (-1))
    (K0 0))

/-- slices.Compare[[]int,int] -/
def e_slices_Compare_int_int {R : Type} (g43_2 : (List Int) → (List Int) → (List Int) → Int → Int → Option R) (K0 : Int → Option R) (s1 : List Int) (s2 : List Int) : Option R :=
  g43_2 s1 s2 s1 (s1.length : Int) 0

def run_slices_Compare_int_int {R : Type} (K0 : Int → Option R) : Nat → (List Int) → (List Int) → (List Int) → Int → Int → Option R
  | 0 => fun _ _ _ _ _ => none
  | n + 1 => s_slices_Compare_int_int_2 (run_slices_Compare_int_int K0 n) K0

def l_slices_Compare_int_int {R : Type} (s1 : List Int) (s2 : List Int) (K0 : Int → Option R) : Option R := bi (decide (short s1)) (K0 (lexS s1 s2)) none

theorem lexS_step {s1 s2 : List Int} {i : Nat} (h1 : i < s1.length) (h2 : i < s2.length) : lexS (s1.drop i) (s2.drop i) = if cmpI s1[i] s2[i] ≠ 0 then cmpI s1[i] s2[i] else lexS (s1.drop (i + 1)) (s2.drop (i + 1)) := by
  rw [List.drop_eq_getElem_cons h1, List.drop_eq_getElem_cons h2]
  by_cases c1 : s1[i] < s2[i]
  · have e : cmpI s1[i] s2[i] = -1 := by unfold cmpI; rw [if_pos c1]
    rw [e]
    simp [lexS, c1]
  · by_cases c2 : s1[i] > s2[i]
    · have e : cmpI s1[i] s2[i] = 1 := by unfold cmpI; rw [if_neg c1, if_pos c2]
      rw [e]
      simp [lexS, c1, c2]
    · have e : cmpI s1[i] s2[i] = 0 := by unfold cmpI; rw [if_neg c1, if_neg c2]
      rw [e]
      simp [lexS, c1, c2]

theorem ok_slices_Compare_int_int {R : Type} (s1 : List Int) (s2 : List Int) (K0 : Int → Option R) {r : R} (h : l_slices_Compare_int_int s1 s2 K0 = some r) : ∃ fuel, e_slices_Compare_int_int (run_slices_Compare_int_int K0 fuel) K0 s1 s2 = some r := by
  unfold l_slices_Compare_int_int at h
  rcases bi_some h with ⟨hs, h⟩ | ⟨_, h⟩
  · have hs : s1.length < 4611686018427387904 := of_decide_eq_true hs
    refine ⟨s1.length + 1, ?_⟩
    rw [← h]
    have key : ∀ (d i : Nat), i + d = s1.length → run_slices_Compare_int_int K0 (d + 1) s1 s2 s1 (s1.length : Int) (i : Int) = K0 (lexS (s1.drop i) (s2.drop i)) := by
      intro d
      induction d with
      | zero =>
        intro i hi
        show s_slices_Compare_int_int_2 _ _ _ _ _ _ _ = _
        unfold s_slices_Compare_int_int_2
        rw [br_neg (by omega), List.drop_eq_nil_of_le (by omega)]
        by_cases h2 : i < s2.length
        · rw [br_pos (by omega), List.drop_eq_getElem_cons h2]
          rfl
        · rw [br_neg (by omega), List.drop_eq_nil_of_le (by omega)]
          rfl
      | succ d ih =>
        intro i hi
        have h1 : i < s1.length := by omega
        show s_slices_Compare_int_int_2 _ _ _ _ _ _ _ = _
        unfold s_slices_Compare_int_int_2
        rw [br_pos (by omega), br_pos (by omega)]
        by_cases h2 : i < s2.length
        · rw [br_neg (by omega), br_pos (by omega), cmp_eq, Int.toNat_natCast, getD_of 0 h1, getD_of 0 h2, lexS_step h1 h2]
          by_cases hc : cmpI s1[i] s2[i] = 0
          · rw [br_ne' hc, if_neg (by omega), wr _ (by omega) (by omega)]
            exact ih (i + 1) (by omega)
          · rw [br_ne hc, if_pos hc]
        · rw [br_pos (by omega), List.drop_eq_getElem_cons h1, List.drop_eq_nil_of_le (show s2.length ≤ i by omega)]
          rfl
    exact key s1.length 0 (by omega)
  · cases h

/-- tutor/word.Compare -/
def l_word_Compare {R : Type} (a : List Int) (b : List Int) (K0 : Int → Option R) : Option R :=
  l_cmp_Compare_int (a.length : Int) (b.length : Int)
   (fun r1 =>
    bi (r1 != 0)
     (K0 r1)
     (l_slices_Compare_int_int a b
      (fun r2 =>
       K0 r2)))

theorem compare_eq {R : Type} {a : List Int} (ha : short a) (b : List Int) (K0 : Int → Option R) : l_word_Compare a b K0 = K0 (compareS a b) := by
  unfold l_word_Compare compareS
  rw [cmp_eq]
  unfold cmpI
  by_cases h1 : a.length < b.length
  · rw [if_pos (by omega), if_pos h1, br_ne (by omega)]
  · by_cases h2 : a.length > b.length
    · rw [if_neg (by omega), if_pos (by omega), if_neg h1, if_pos h2, br_ne (by omega)]
    · rw [if_neg (by omega), if_neg (by omega), if_neg h1, if_neg h2, br_ne' rfl]
      unfold l_slices_Compare_int_int
      rw [br_pos ha]

/-- tutor/tutorref01.Same -/
def s_tutorref01_Same_4 {R : Type} (g22_4 : (List Int) → (List Int) → Int → Option R) (K0 : Bool → Option R) (a : List Int) (b : List Int) (i : Int) : Option R :=
  bi (decide (i < (a.length : Int)))
   (bi (decide (0 ≤ i ∧ i < ((a.length : Nat) : Int)))
    (bi (decide (0 ≤ i ∧ i < ((b.length : Nat) : Int)))
     (bi ((a.getD i.toNat 0) != (b.getD i.toNat 0))
      (K0 false)
      (g22_4 a b (IntKind.i64.wrap (i + 1))))
     none)
    none)
   (K0 true)

/-- tutor/tutorref01.Same -/
def e_tutorref01_Same {R : Type} (g22_4 : (List Int) → (List Int) → Int → Option R) (K0 : Bool → Option R) (a : List Int) (b : List Int) : Option R :=
  bi ((a.length : Int) != (b.length : Int))
   (K0 false)
   (g22_4 a b 0)

def run_tutorref01_Same {R : Type} (K0 : Bool → Option R) : Nat → (List Int) → (List Int) → Int → Option R
  | 0 => fun _ _ _ => none
  | n + 1 => s_tutorref01_Same_4 (run_tutorref01_Same K0 n) K0

def l_tutorref01_Same {R : Type} (a : List Int) (b : List Int) (K0 : Bool → Option R) : Option R := bi (decide (short a)) (K0 (decide (a = b))) none

theorem findP_zip {a b : List Int} (hl : a.length = b.length) : findP (fun i => a.getD i 0 != b.getD i 0) (List.range a.length) = none ↔ a = b := by
  rw [findP_none]
  constructor
  · intro h
    refine List.ext_getElem hl fun i h1 h2 => ?_
    have := h i (by simpa using h1)
    rw [getD_of 0 h1, getD_of 0 h2] at this
    simpa using this
  · rintro rfl i _
    simp

theorem ok_tutorref01_Same {R : Type} (a : List Int) (b : List Int) (K0 : Bool → Option R) {r : R} (h : l_tutorref01_Same a b K0 = some r) : ∃ fuel, e_tutorref01_Same (run_tutorref01_Same K0 fuel) K0 a b = some r := by
  unfold l_tutorref01_Same at h
  rcases bi_some h with ⟨hs, h⟩ | ⟨_, h⟩
  · have hs : a.length < 4611686018427387904 := of_decide_eq_true hs
    refine ⟨a.length + 1, ?_⟩
    rw [← h]
    unfold e_tutorref01_Same
    by_cases hl : a.length = b.length
    · rw [br_ne' (by omega)]
      have key := scan_all (F := fun m i => run_tutorref01_Same K0 m a b (i : Int)) (fun i => a.getD i 0 != b.getD i 0) (l := List.range a.length) (A := fun i => K0 false) (B := K0 true)
        (fun m => by
          show s_tutorref01_Same_4 _ _ _ _ _ = _
          unfold s_tutorref01_Same_4
          rw [List.length_range, br_neg (by omega)])
        (fun m i hi => by
          rw [List.length_range] at hi
          show s_tutorref01_Same_4 _ _ _ _ _ = _
          unfold s_tutorref01_Same_4
          rw [br_pos (by omega), br_pos (by omega), br_pos (by omega), br_if, Int.toNat_natCast, wr _ (by omega) (by omega), List.getElem_range]
          rfl)
      rw [List.length_range] at key
      refine key.trans ?_
      by_cases e : a = b
      · rw [(findP_zip hl).2 e]
        simp [e]
      · have : findP (fun i => a.getD i 0 != b.getD i 0) (List.range a.length) ≠ none := fun h => e ((findP_zip hl).1 h)
        cases hf : findP (fun i => a.getD i 0 != b.getD i 0) (List.range a.length) with
        | none => exact absurd hf this
        | some j => simp [e]
    · rw [br_ne (by omega)]
      have e : a ≠ b := fun e => hl (by rw [e])
      simp [e]
  · cases h

theorem same_eq {R : Type} {a b : List Int} (h : short a) (K0 : Bool → Option R) : l_tutorref01_Same a b K0 = K0 (decide (a = b)) := by
  unfold l_tutorref01_Same
  rw [br_pos h]

/-- tutor/tutorlaw01.live -/
def l_tutorlaw01_live {R : Type}  (K0 : Bool → Option R) : Option R :=
  l_word_Next [1, 1] 2
   (fun r1 r2 =>
    l_word_Count 2 3
     (fun r3 r4 =>
      l_word_At 2 4
       (fun r5 r6 =>
        l_word_Rank [0, 1] 2
         (fun r7 r8 =>
          l_word_Add 1099511627776 1
           (fun r9 r10 =>
            l_word_Check [0, 2] 2
             (fun r11 r12 =>
              l_word_Compare [1] [0, 0]
               (fun r13 =>
                bi (r13 == (-1))
                 (l_tutorref01_Same r2 [0, 0, 0]
                  (fun r14 =>
                   bi r14
                    (bi (r3 == 15)
                     (l_tutorref01_Same r6 [0, 1]
                      (fun r15 =>
                       bi r15
                        (bi (r7 == 4)
                         (l_tutorlaw01_num r1
                          (fun r16 =>
                           l_tutorlaw01_num r4
                            (fun r17 =>
                             l_tutorlaw01_num r5
                              (fun r18 =>
                               l_tutorlaw01_num r8
                                (fun r19 =>
                                 bi ((IntKind.i64.wrap ((IntKind.i64.wrap ((IntKind.i64.wrap (r16 + r17)) + r18)) + r19)) == 0)
                                  (l_tutorlaw01_num r10
                                   (fun r20 =>
                                    bi (r20 == 11)
                                     (bi (r11 == 1)
                                      (l_tutorlaw01_num r12
                                       (fun r21 =>
                                        K0 (r21 == 10)))
                                      (K0 false))
                                     (K0 false)))
                                  (K0 false))))))
                         (K0 false))
                        (K0 false)))
                     (K0 false))
                    (K0 false)))
                 (K0 false))))))
       (fun r22 r23 =>
        l_word_Rank [0, 1] 2
         (fun r24 r25 =>
          l_word_Add 1099511627776 1
           (fun r26 r27 =>
            l_word_Check [0, 2] 2
             (fun r28 r29 =>
              l_word_Compare [1] [0, 0]
               (fun r30 =>
                bi (r30 == (-1))
                 (l_tutorref01_Same r2 [0, 0, 0]
                  (fun r31 =>
                   bi r31
                    (bi (r3 == 15)
                     (l_tutorref01_Same r23 [0, 1]
                      (fun r32 =>
                       bi r32
                        (bi (r24 == 4)
                         (l_tutorlaw01_num r1
                          (fun r33 =>
                           l_tutorlaw01_num r4
                            (fun r34 =>
                             l_tutorlaw01_num r22
                              (fun r35 =>
                               l_tutorlaw01_num r25
                                (fun r36 =>
                                 bi ((IntKind.i64.wrap ((IntKind.i64.wrap ((IntKind.i64.wrap (r33 + r34)) + r35)) + r36)) == 0)
                                  (l_tutorlaw01_num r27
                                   (fun r37 =>
                                    bi (r37 == 11)
                                     (bi (r28 == 1)
                                      (l_tutorlaw01_num r29
                                       (fun r38 =>
                                        K0 (r38 == 10)))
                                      (K0 false))
                                     (K0 false)))
                                  (K0 false))))))
                         (K0 false))
                        (K0 false)))
                     (K0 false))
                    (K0 false)))
                 (K0 false))))))))

theorem live01 {R : Type} (K0 : Bool → Option R) : l_tutorlaw01_live K0 = K0 true := by
  have e1 : nextS 2 [1, 1] = (0, [0, 0, 0]) := by decide
  have e2 : countS 2 3 = (15, 0) := by decide
  have e3 : atE 2 4 = 0 := by decide
  have e4 : atS 2 4 = [0, 1] := by decide
  have e5 : rankR 2 [0, 1] = (4, 0) := by decide
  have e6 : addC 1099511627776 1 = (0, 11) := by decide
  have e7 : wordS 2 [0, 2] = (1, 10) := by decide
  have e8 : compareS [1] [0, 0] = -1 := by decide
  unfold l_tutorlaw01_live l_word_Next
  rw [e1]
  dsimp only
  rw [count_eq _ (by decide), e2]
  dsimp only
  unfold l_word_At
  rw [e3, e4, if_neg (by decide), if_neg (by decide)]
  unfold l_word_Rank
  rw [e5]
  dsimp only
  rw [add_eq (by decide) (by decide), e6]
  unfold l_word_Check
  rw [e7]
  dsimp only
  rw [compare_eq (by decide), e8, br_eq rfl, same_eq (by decide)]
  rw [br_pos rfl, br_eq rfl, same_eq (by decide), br_pos rfl, br_eq rfl]
  unfold l_tutorlaw01_num
  dsimp only
  rw [br_eq (by decide), br_eq rfl, br_eq rfl]
  rfl

/-- tutor/tutorlaw01.WordBack -/
def l_tutorlaw01_WordBack {R : Type} (k : Int) (i : Int) (w : List Int) (K0 : Bool → Option R) : Option R :=
  l_word_At k i
   (fun r1 r2 =>
    l_tutorlaw01_num r1
     (fun r3 =>
      bi (r3 == 0)
       (l_word_Rank r2 k
        (fun r4 r5 =>
         l_word_Next r2 k
          (fun r6 r7 =>
           l_tutorlaw01_num r5
            (fun r8 =>
             bi (r8 != 0)
              (K0 false)
              (bi (r4 != i)
               (K0 false)
               (l_tutorlaw01_num r6
                (fun r9 =>
                 bi (r9 == 0)
                  (bi (decide (i < 1099511627776))
                   (l_word_Rank r7 k
                    (fun r10 r11 =>
                     l_tutorlaw01_num r11
                      (fun r12 =>
                       bi (r12 != 0)
                        (K0 false)
                        (bi (r10 != (IntKind.i64.wrap (i + 1)))
                         (K0 false)
                         (l_word_Rank w k
                          (fun r13 r14 =>
                           l_tutorlaw01_num r14
                            (fun r15 =>
                             bi (r15 != 0)
                              (l_tutorlaw01_live
                               (fun r16 =>
                                K0 r16))
                              (l_word_At k r13
                               (fun r17 r18 =>
                                l_tutorlaw01_num r17
                                 (fun r19 =>
                                  bi (r19 == 0)
                                   (l_tutorref01_Same r18 w
                                    (fun r20 =>
                                     bi r20
                                      (l_tutorlaw01_live
                                       (fun r21 =>
                                        K0 r21))
                                      (K0 false)))
                                   (K0 false)))
                               (fun r22 r23 =>
                                l_tutorlaw01_num r22
                                 (fun r24 =>
                                  bi (r24 == 0)
                                   (l_tutorref01_Same r23 w
                                    (fun r25 =>
                                     bi r25
                                      (l_tutorlaw01_live
                                       (fun r26 =>
                                        K0 r26))
                                      (K0 false)))
                                   (K0 false)))))))))))
                   (l_word_Rank w k
                    (fun r27 r28 =>
                     l_tutorlaw01_num r28
                      (fun r29 =>
                       bi (r29 != 0)
                        (l_tutorlaw01_live
                         (fun r30 =>
                          K0 r30))
                        (l_word_At k r27
                         (fun r31 r32 =>
                          l_tutorlaw01_num r31
                           (fun r33 =>
                            bi (r33 == 0)
                             (l_tutorref01_Same r32 w
                              (fun r34 =>
                               bi r34
                                (l_tutorlaw01_live
                                 (fun r35 =>
                                  K0 r35))
                                (K0 false)))
                             (K0 false)))
                         (fun r36 r37 =>
                          l_tutorlaw01_num r36
                           (fun r38 =>
                            bi (r38 == 0)
                             (l_tutorref01_Same r37 w
                              (fun r39 =>
                               bi r39
                                (l_tutorlaw01_live
                                 (fun r40 =>
                                  K0 r40))
                                (K0 false)))
                             (K0 false))))))))
                  (l_word_Rank w k
                   (fun r41 r42 =>
                    l_tutorlaw01_num r42
                     (fun r43 =>
                      bi (r43 != 0)
                       (l_tutorlaw01_live
                        (fun r44 =>
                         K0 r44))
                       (l_word_At k r41
                        (fun r45 r46 =>
                         l_tutorlaw01_num r45
                          (fun r47 =>
                           bi (r47 == 0)
                            (l_tutorref01_Same r46 w
                             (fun r48 =>
                              bi r48
                               (l_tutorlaw01_live
                                (fun r49 =>
                                 K0 r49))
                               (K0 false)))
                            (K0 false)))
                        (fun r50 r51 =>
                         l_tutorlaw01_num r50
                          (fun r52 =>
                           bi (r52 == 0)
                            (l_tutorref01_Same r51 w
                             (fun r53 =>
                              bi r53
                               (l_tutorlaw01_live
                                (fun r54 =>
                                 K0 r54))
                               (K0 false)))
                            (K0 false))))))))))))))
       (l_word_Rank w k
        (fun r55 r56 =>
         l_tutorlaw01_num r56
          (fun r57 =>
           bi (r57 != 0)
            (l_tutorlaw01_live
             (fun r58 =>
              K0 r58))
            (l_word_At k r55
             (fun r59 r60 =>
              l_tutorlaw01_num r59
               (fun r61 =>
                bi (r61 == 0)
                 (l_tutorref01_Same r60 w
                  (fun r62 =>
                   bi r62
                    (l_tutorlaw01_live
                     (fun r63 =>
                      K0 r63))
                    (K0 false)))
                 (K0 false)))
             (fun r64 r65 =>
              l_tutorlaw01_num r64
               (fun r66 =>
                bi (r66 == 0)
                 (l_tutorref01_Same r65 w
                  (fun r67 =>
                   bi r67
                    (l_tutorlaw01_live
                     (fun r68 =>
                      K0 r68))
                    (K0 false)))
                 (K0 false)))))))))
   (fun r69 r70 =>
    l_tutorlaw01_num r69
     (fun r71 =>
      bi (r71 == 0)
       (l_word_Rank r70 k
        (fun r72 r73 =>
         l_word_Next r70 k
          (fun r74 r75 =>
           l_tutorlaw01_num r73
            (fun r76 =>
             bi (r76 != 0)
              (K0 false)
              (bi (r72 != i)
               (K0 false)
               (l_tutorlaw01_num r74
                (fun r77 =>
                 bi (r77 == 0)
                  (bi (decide (i < 1099511627776))
                   (l_word_Rank r75 k
                    (fun r78 r79 =>
                     l_tutorlaw01_num r79
                      (fun r80 =>
                       bi (r80 != 0)
                        (K0 false)
                        (bi (r78 != (IntKind.i64.wrap (i + 1)))
                         (K0 false)
                         (l_word_Rank w k
                          (fun r81 r82 =>
                           l_tutorlaw01_num r82
                            (fun r83 =>
                             bi (r83 != 0)
                              (l_tutorlaw01_live
                               (fun r84 =>
                                K0 r84))
                              (l_word_At k r81
                               (fun r85 r86 =>
                                l_tutorlaw01_num r85
                                 (fun r87 =>
                                  bi (r87 == 0)
                                   (l_tutorref01_Same r86 w
                                    (fun r88 =>
                                     bi r88
                                      (l_tutorlaw01_live
                                       (fun r89 =>
                                        K0 r89))
                                      (K0 false)))
                                   (K0 false)))
                               (fun r90 r91 =>
                                l_tutorlaw01_num r90
                                 (fun r92 =>
                                  bi (r92 == 0)
                                   (l_tutorref01_Same r91 w
                                    (fun r93 =>
                                     bi r93
                                      (l_tutorlaw01_live
                                       (fun r94 =>
                                        K0 r94))
                                      (K0 false)))
                                   (K0 false)))))))))))
                   (l_word_Rank w k
                    (fun r95 r96 =>
                     l_tutorlaw01_num r96
                      (fun r97 =>
                       bi (r97 != 0)
                        (l_tutorlaw01_live
                         (fun r98 =>
                          K0 r98))
                        (l_word_At k r95
                         (fun r99 r100 =>
                          l_tutorlaw01_num r99
                           (fun r101 =>
                            bi (r101 == 0)
                             (l_tutorref01_Same r100 w
                              (fun r102 =>
                               bi r102
                                (l_tutorlaw01_live
                                 (fun r103 =>
                                  K0 r103))
                                (K0 false)))
                             (K0 false)))
                         (fun r104 r105 =>
                          l_tutorlaw01_num r104
                           (fun r106 =>
                            bi (r106 == 0)
                             (l_tutorref01_Same r105 w
                              (fun r107 =>
                               bi r107
                                (l_tutorlaw01_live
                                 (fun r108 =>
                                  K0 r108))
                                (K0 false)))
                             (K0 false))))))))
                  (l_word_Rank w k
                   (fun r109 r110 =>
                    l_tutorlaw01_num r110
                     (fun r111 =>
                      bi (r111 != 0)
                       (l_tutorlaw01_live
                        (fun r112 =>
                         K0 r112))
                       (l_word_At k r109
                        (fun r113 r114 =>
                         l_tutorlaw01_num r113
                          (fun r115 =>
                           bi (r115 == 0)
                            (l_tutorref01_Same r114 w
                             (fun r116 =>
                              bi r116
                               (l_tutorlaw01_live
                                (fun r117 =>
                                 K0 r117))
                               (K0 false)))
                            (K0 false)))
                        (fun r118 r119 =>
                         l_tutorlaw01_num r118
                          (fun r120 =>
                           bi (r120 == 0)
                            (l_tutorref01_Same r119 w
                             (fun r121 =>
                              bi r121
                               (l_tutorlaw01_live
                                (fun r122 =>
                                 K0 r122))
                               (K0 false)))
                            (K0 false))))))))))))))
       (l_word_Rank w k
        (fun r123 r124 =>
         l_tutorlaw01_num r124
          (fun r125 =>
           bi (r125 != 0)
            (l_tutorlaw01_live
             (fun r126 =>
              K0 r126))
            (l_word_At k r123
             (fun r127 r128 =>
              l_tutorlaw01_num r127
               (fun r129 =>
                bi (r129 == 0)
                 (l_tutorref01_Same r128 w
                  (fun r130 =>
                   bi r130
                    (l_tutorlaw01_live
                     (fun r131 =>
                      K0 r131))
                    (K0 false)))
                 (K0 false)))
             (fun r132 r133 =>
              l_tutorlaw01_num r132
               (fun r134 =>
                bi (r134 == 0)
                 (l_tutorref01_Same r133 w
                  (fun r135 =>
                   bi r135
                    (l_tutorlaw01_live
                     (fun r136 =>
                      K0 r136))
                    (K0 false)))
                 (K0 false)))))))))

theorem law_tutorlaw01_WordBack {R : Type} (k i : Int) (w : List Int) (K0 : Bool → Option R) (hk : inI k) (hi : inI i) (hw : okW w) : l_tutorlaw01_WordBack k i w K0 = K0 true := by
  unfold l_tutorlaw01_WordBack
  simp only [at_same]
  unfold l_word_Rank l_word_Next
  dsimp only [l_tutorlaw01_num]
  have tail : bi ((rankR k w).2 != 0) (l_tutorlaw01_live fun r => K0 r) (bi (atE k (rankR k w).1 == 0) (l_tutorref01_Same (if atE k (rankR k w).1 ≠ 0 then [] else atS k (rankR k w).1) w fun r => bi r (l_tutorlaw01_live fun r => K0 r) (K0 false)) (K0 false)) = K0 true := by
    by_cases e : (rankR k w).2 = 0
    · obtain ⟨h1, h2⟩ := at_rank e
      obtain ⟨h3, _⟩ := rankR_zero e
      obtain ⟨_, h4, _⟩ := wordS_zero.1 h3
      have e2 : (if atE k (rankR k w).1 ≠ 0 then [] else atS k (rankR k w).1) = w := by rw [if_neg (by simpa using h1), h2]
      rw [br_ne' e, br_eq h1, e2, same_eq (by unfold short; omega), br_pos rfl, live01]
    · rw [br_ne e, live01]
  by_cases he : atE k i = 0
  · have e1 : (if atE k i ≠ 0 then [] else atS k i) = atS k i := if_neg (by simpa using he)
    obtain ⟨_, e3⟩ := atS_spec he
    obtain ⟨_, q2, q3, _⟩ := atE_zero he
    simp only [e1, rank_at he]
    rw [br_eq he, br_ne' rfl, br_ne' rfl]
    by_cases hn : (nextS k (atS k i)).1 = 0
    · rw [br_eq hn]
      by_cases hlt : i < 1099511627776
      · have e4 := next_rank hn (by rw [e3]; unfold maxC; omega)
        rw [e3] at e4
        rw [br_pos hlt]
        simp only [e4]
        rw [br_ne' rfl, wr _ (by omega) (by omega), br_ne' rfl]
        exact tail
      · rw [br_neg hlt]
        exact tail
    · rw [br_eq' hn]
      exact tail
  · rw [br_eq' he]
    exact tail

end Go.Ev
