/- Functions of the program, as trees of tests over numbers and lists; no program in sight. -/
import Derived.Test.YtahecgbjneaboaaEvWord
namespace Go.Ev
noncomputable section
set_option linter.unusedVariables false
set_option linter.unusedSimpArgs false
set_option maxRecDepth 100000
set_option maxHeartbeats 4000000

/-- tutor/word.alphabet -/
def l_word_alphabet {R : Type} (k : Int) (K0 : Bool → Option R) : Option R :=
  bi (decide (k ≥ 1))
   (K0 (decide (k ≤ 64)))
   (K0 false)

theorem alpha_eq {R : Type} (k : Int) (K0 : Bool → Option R) : l_word_alphabet k K0 = K0 (decide (1 ≤ k ∧ k ≤ 64)) := by
  unfold l_word_alphabet
  by_cases h : k ≥ 1
  · rw [br_pos h]
    congr 1
    rw [decide_eq_decide]
    omega
  · rw [br_neg h, decide_eq_false (by omega)]

/-- tutor/word.Check -/
def s_word_Check_6 {R : Type} (g13_6 : (List Int) → Int → Int → Int → Option R) (K0 : Int → Int → Option R) (w : List Int) (k : Int) (x16 : Int) (x17 : Int) : Option R :=
  bi (decide (x17 < x16))
   (bi (decide (0 ≤ x17 ∧ x17 < ((w.length : Nat) : Int)))
    (bi (decide ((w.getD x17.toNat 0) < 0))
     (K0 x17 10)
     (bi (decide (0 ≤ x17 ∧ x17 < ((w.length : Nat) : Int)))
      (bi (decide ((w.getD x17.toNat 0) ≥ k))
       (K0 x17 10)
       (g13_6 w k x16 (IntKind.i64.wrap (x17 + 1))))
      none))
    none)
   (K0 0 0)

/-- tutor/word.Check -/
def e_word_Check {R : Type} (g13_6 : (List Int) → Int → Int → Int → Option R) (K0 : Int → Int → Option R) (w : List Int) (k : Int) : Option R :=
  l_word_alphabet k
   (fun r1 =>
    bi (!r1)
     (K0 0 1)
     (bi (decide ((w.length : Int) > 4096))
      (K0 0 2)
      (g13_6 w k (w.length : Int) 0)))

def run_word_Check {R : Type} (K0 : Int → Int → Option R) : Nat → (List Int) → Int → Int → Int → Option R
  | 0 => fun _ _ _ _ => none
  | n + 1 => s_word_Check_6 (run_word_Check K0 n) K0

def l_word_Check {R : Type} (w : List Int) (k : Int) (K0 : Int → Int → Option R) : Option R := K0 (wordS k w).1 (wordS k w).2

theorem ok_word_Check {R : Type} (w : List Int) (k : Int) (K0 : Int → Int → Option R) {r : R} (h : l_word_Check w k K0 = some r) : ∃ fuel, e_word_Check (run_word_Check K0 fuel) K0 w k = some r := by
  refine ⟨w.length + 1, ?_⟩
  rw [← h]
  unfold l_word_Check e_word_Check l_word_alphabet wordS
  by_cases h1 : 1 ≤ k
  · rw [br_pos (by omega)]
    by_cases h2 : k ≤ 64
    · rw [decide_eq_true h2, if_neg (by omega)]
      show bi false _ _ = _
      rw [br_ff]
      by_cases h3 : w.length > 4096
      · rw [br_pos (by omega), if_pos h3]
      · rw [br_neg (by omega), if_neg h3]
        have key := scan_all (F := fun m i => run_word_Check K0 m w k (w.length : Int) (i : Int)) (outside k) (l := w) (A := fun i => K0 i 10) (B := K0 0 0)
          (fun m => by
            show s_word_Check_6 _ _ _ _ _ _ = _
            unfold s_word_Check_6
            rw [br_neg (by omega)])
          (fun m i hi => by
            show s_word_Check_6 _ _ _ _ _ _ = _
            unfold s_word_Check_6
            rw [br_pos (by omega), br_pos (by omega), br_pos (p := 0 ≤ (i : Int) ∧ (i : Int) < ((w.length : Nat) : Int)) (by omega), Int.toNat_natCast, getD_of 0 hi, wr _ (by omega) (by omega)]
            unfold outside
            cases decide (w[i] < 0) <;> cases decide (w[i] ≥ k) <;> rfl)
        refine key.trans ?_
        cases findP (outside k) w <;> rfl
    · rw [decide_eq_false h2, if_pos (by omega)]
      rfl
  · rw [br_neg (by omega), if_pos (by omega)]
    rfl

/-- slices.Clone[[]int,int] -/
def l_slices_Clone_int_int {R : Type} (s : List Int) (K0 : List Int → Option R) : Option R :=
  bi (decide (s.length * 8 ≤ lim)) (K0 s) none

/-- tutor/word.Next -/
def s_word_Next_6 {R : Type} (g20_6 : (List Int) → Int → Int → (List Int) → Option R) (K0 : Int → (List Int) → Option R) (w : List Int) (k : Int) (i : Int) (o0 : List Int) : Option R :=
  bi (decide (i ≥ 0))
   (bi (decide (0 ≤ i ∧ i < ((o0.length : Nat) : Int)))
    (bi (decide (0 ≤ i ∧ i < ((o0.length : Nat) : Int)))
     (bi (decide (0 ≤ i ∧ i < (((o0.set i.toNat (IntKind.i64.wrap ((o0.getD i.toNat 0) + 1))).length : Nat) : Int)))
      (bi (decide (((o0.set i.toNat (IntKind.i64.wrap ((o0.getD i.toNat 0) + 1))).getD i.toNat 0) < k))
       (K0 0 (o0.set i.toNat (IntKind.i64.wrap ((o0.getD i.toNat 0) + 1))))
       (bi (decide (0 ≤ i ∧ i < (((o0.set i.toNat (IntKind.i64.wrap ((o0.getD i.toNat 0) + 1))).length : Nat) : Int)))
        (g20_6 w k (IntKind.i64.wrap (i - 1)) ((o0.set i.toNat (IntKind.i64.wrap ((o0.getD i.toNat 0) + 1))).set i.toNat 0))
        none))
      none)
     none)
    none)
   (bi ((w.length : Int) == 4096)
    (K0 2 ([] : List Int))
    (bi (decide ((o0.length + [0].length) * 8 ≤ lim))
     (K0 0 (o0 ++ [0]))
     none))

/-- tutor/word.Next -/
def e_word_Next {R : Type} (g20_6 : (List Int) → Int → Int → (List Int) → Option R) (K0 : Int → (List Int) → Option R) (w : List Int) (k : Int) : Option R :=
  l_word_Check w k
   (fun r1 r2 =>
    bi (r2 != 0)
     (K0 r2 ([] : List Int))
     (l_slices_Clone_int_int w
      (fun r3 =>
       g20_6 w k (IntKind.i64.wrap ((r3.length : Int) - 1)) r3)))

def run_word_Next {R : Type} (K0 : Int → (List Int) → Option R) : Nat → (List Int) → Int → Int → (List Int) → Option R
  | 0 => fun _ _ _ _ => none
  | n + 1 => s_word_Next_6 (run_word_Next K0 n) K0

def l_word_Next {R : Type} (w : List Int) (k : Int) (K0 : Int → (List Int) → Option R) : Option R := K0 (nextS k w).1 (nextS k w).2

theorem lastS_len (k : Int) (w : List Int) : ∀ i, i ≤ w.length → (lastS k w i).length = w.length ∨ (lastS k w i).length = w.length + 1
  | 0, _ => by simp [lastS]
  | i + 1, h => by
    simp only [lastS]
    split
    · left
      simp only [List.length_append, List.length_take, List.length_cons, List.length_nil, List.length_replicate]
      omega
    · exact lastS_len k w i (by omega)

theorem set_mid {l1 l2 : List Int} {x y : Int} {i : Nat} (h : l1.length = i) : (l1 ++ [x] ++ l2).set i y = l1 ++ [y] ++ l2 := by
  subst h
  simp

theorem get_mid {l1 l2 : List Int} {x : Int} {i : Nat} (h : l1.length = i) : (l1 ++ [x] ++ l2).getD i 0 = x := by
  subst h
  simp [List.getD_eq_getElem?_getD]

theorem ok_word_Next {R : Type} (w : List Int) (k : Int) (K0 : Int → (List Int) → Option R) {r : R} (h : l_word_Next w k K0 = some r) : ∃ fuel, e_word_Next (run_word_Next K0 fuel) K0 w k = some r := by
  refine ⟨w.length + 1, ?_⟩
  rw [← h]
  unfold l_word_Next nextS e_word_Next l_word_Check
  dsimp only
  by_cases he : (wordS k w).2 = 0
  · obtain ⟨hk, hl, hv⟩ := wordS_zero.1 he
    rw [br_ne' he, if_neg (by omega)]
    unfold l_slices_Clone_int_int
    rw [br_pos (by unfold lim; omega)]
    have key : ∀ i, i ≤ w.length → run_word_Next K0 (i + 1) w k ((i : Int) - 1) (w.take i ++ List.replicate (w.length - i) 0) = if (lastS k w i).length > 4096 then K0 2 [] else K0 0 (lastS k w i) := by
      intro i
      induction i with
      | zero =>
        intro _
        show s_word_Next_6 _ _ _ _ _ _ = _
        unfold s_word_Next_6
        simp only [List.take_zero, List.nil_append, Nat.sub_zero, lastS, List.length_replicate]
        rw [br_neg (by omega)]
        by_cases hw : w.length = 4096
        · rw [br_eq (by omega), if_pos (by omega)]
        · rw [br_eq' (by omega), br_pos (by simp [lim]; omega), if_neg (by omega), List.replicate_succ']
      | succ i ih =>
        intro hi
        have hlt : i < w.length := by omega
        have hx := hv w[i] (List.getElem_mem hlt)
        have e0 : w.take (i + 1) ++ List.replicate (w.length - (i + 1)) 0 = w.take i ++ [w[i]] ++ List.replicate (w.length - (i + 1)) 0 := by
          rw [List.take_add_one, List.getElem?_eq_getElem hlt]
          rfl
        have ht : (w.take i).length = i := by rw [List.length_take]; omega
        have hlen : ∀ x : Int, (w.take i ++ [x] ++ List.replicate (w.length - (i + 1)) 0).length = w.length := by
          intro x
          simp only [List.length_append, List.length_cons, List.length_nil, List.length_replicate, ht]
          omega
        rw [e0]
        have ei : ((i + 1 : Nat) : Int) - 1 = (i : Int) := by omega
        rw [ei]
        show s_word_Next_6 _ _ _ _ _ _ = _
        unfold s_word_Next_6
        simp only [Int.toNat_natCast, get_mid ht, set_mid ht, hlen]
        rw [br_pos (by omega), br_pos (by omega), br_pos (by omega), br_pos (by omega), wr (w[i] + 1) (by omega) (by omega)]
        simp only [lastS, getD_of 0 hlt]
        by_cases hc : w[i] + 1 < k
        · have e2 : w.length - i - 1 = w.length - (i + 1) := by omega
          rw [br_pos hc, if_pos (show w[i] < k - 1 by omega), e2, hlen, if_neg (by omega)]
        · have e3 : w.take i ++ [0] ++ List.replicate (w.length - (i + 1)) 0 = w.take i ++ List.replicate (w.length - i) 0 := by
            rw [List.append_assoc, List.singleton_append, ← List.replicate_succ]
            congr 2
            omega
          rw [br_neg hc, if_neg (show ¬ w[i] < k - 1 by omega), br_pos (by omega), wr _ (by omega) (by omega), e3]
          exact ih (by omega)
    have := key w.length (Nat.le_refl _)
    rw [List.take_length, Nat.sub_self, List.replicate_zero, List.append_nil] at this
    dsimp only
    rw [wr _ (by omega) (by omega), this]
    unfold afterS
    split <;> rfl
  · rw [br_ne he, if_pos he]

/-- tutor/word.counter -/
def l_word_counter {R : Type} (n : Int) (K0 : Bool → Option R) : Option R :=
  bi (decide (n ≥ 0))
   (K0 (decide (n ≤ 1099511627776)))
   (K0 false)

theorem counter_eq {R : Type} (n : Int) (K0 : Bool → Option R) : l_word_counter n K0 = K0 (decide (¬ badC n)) := by
  unfold l_word_counter badC maxC
  by_cases h : n ≥ 0
  · rw [br_pos h]
    congr 1
    rw [decide_eq_decide]
    omega
  · rw [br_neg h, decide_eq_false (by omega)]

/-- tutor/word.Add -/
def l_word_Add {R : Type} (a : Int) (b : Int) (K0 : Int → Int → Option R) : Option R :=
  l_word_counter a
   (fun r1 =>
    bi (!r1)
     (K0 0 1)
     (l_word_counter b
      (fun r2 =>
       bi (!r2)
        (K0 0 1)
        (bi (decide (a > (IntKind.i64.wrap (1099511627776 - b))))
         (K0 0 11)
         (K0 (IntKind.i64.wrap (a + b)) 0)))))

theorem add_eq {R : Type} {a b : Int} (ha : inI a) (hb : inI b) (K0 : Int → Int → Option R) : l_word_Add a b K0 = K0 (addC a b).1 (addC a b).2 := by
  unfold l_word_Add addC
  rw [counter_eq]
  by_cases h1 : badC a
  · rw [decide_eq_false (by simpa using h1), if_pos (.inl h1)]
    rfl
  · rw [decide_eq_true h1, counter_eq]
    show bi false _ _ = _
    rw [br_ff]
    by_cases h2 : badC b
    · rw [decide_eq_false (by simpa using h2), if_pos (.inr h2)]
      rfl
    · rw [decide_eq_true h2, if_neg (by simp [h1, h2])]
      show bi false _ _ = _
      unfold badC maxC at h1 h2
      rw [br_ff, wr _ (by omega) (by omega)]
      unfold maxC
      by_cases h3 : a + b > 1099511627776
      · rw [br_pos (by omega), if_pos h3]
      · rw [br_neg (by omega), if_neg h3, wr _ (by omega) (by omega)]

/-- tutor/word.Mul -/
def l_word_Mul {R : Type} (a : Int) (b : Int) (K0 : Int → Int → Option R) : Option R :=
  l_word_counter a
   (fun r1 =>
    bi (!r1)
     (K0 0 1)
     (l_word_counter b
      (fun r2 =>
       bi (!r2)
        (K0 0 1)
        (bi (decide (b > 0))
         (bi (decide (b = 0))
          none
          (bi (decide (a > (IntKind.i64.wrap ((1099511627776 : Int).tdiv b))))
           (K0 0 11)
           (K0 (IntKind.i64.wrap (a * b)) 0)))
         (K0 (IntKind.i64.wrap (a * b)) 0)))))

theorem mulC {a b : Int} (h1 : ¬ badC a) (h2 : ¬ badC b) : 0 ≤ a * b ∧ a * b ≤ 1208925819614629174706176 := by
  unfold badC maxC at h1 h2
  have h3 := Int.mul_nonneg (show 0 ≤ a by omega) (show 0 ≤ b by omega)
  have h4 : a * b ≤ 1099511627776 * b := Int.mul_le_mul_of_nonneg_right (by omega) (by omega)
  omega
theorem mul_eq {R : Type} {a b : Int} (K0 : Int → Int → Option R) : l_word_Mul a b K0 = K0 (mulS a b).1 (mulS a b).2 := by
  unfold l_word_Mul mulS
  rw [counter_eq]
  by_cases h1 : badC a
  · rw [decide_eq_false (by simpa using h1), if_pos (.inl h1)]
    rfl
  · rw [decide_eq_true h1, counter_eq]
    show bi false _ _ = _
    rw [br_ff]
    by_cases h2 : badC b
    · rw [decide_eq_false (by simpa using h2), if_pos (.inr h2)]
      rfl
    · rw [decide_eq_true h2, if_neg (by simp [h1, h2])]
      show bi false _ _ = _
      rw [br_ff]
      unfold badC maxC at h1 h2
      unfold maxC
      by_cases hb : b > 0
      · rw [br_pos hb, br_neg (by omega)]
        have e : (1099511627776 : Int).tdiv b = 1099511627776 / b := Int.tdiv_eq_ediv_of_nonneg (by omega)
        have hle : 1099511627776 / b ≤ 1099511627776 := Int.ediv_le_self _ (by omega)
        have hge : 0 ≤ 1099511627776 / b := Int.ediv_nonneg (by omega) (by omega)
        have hiff : 1099511627776 / b < a ↔ 1099511627776 < a * b := Int.ediv_lt_iff_lt_mul hb
        rw [e, wr _ (by omega) (by omega)]
        by_cases h3 : a * b > 1099511627776
        · rw [br_pos (by omega), if_pos h3]
        · have := Int.mul_nonneg (show 0 ≤ a by omega) (show 0 ≤ b by omega)
          rw [br_neg (by omega), if_neg h3, wr _ (by omega) (by omega)]
      · have : b = 0 := by omega
        subst this
        rw [br_neg hb]
        simp only [Int.mul_zero]
        rw [if_neg (by omega), wr _ (by omega) (by omega)]

/-- tutor/word.Count -/
def s_word_Count_7 {R : Type} (g27_7 : Int → Int → Int → Int → Option R) (K0 : Int → Int → Option R) (k : Int) (sum : Int) (x23 : Int) (x24 : Int) : Option R :=
  bi (decide (x24 < x23))
   (l_word_Mul sum k
    (fun r4 r5 =>
     bi (r5 == 0)
      (l_word_Add r4 1
       (fun r6 r7 =>
        bi (r7 != 0)
         (K0 0 r7)
         (g27_7 k r6 x23 (IntKind.i64.wrap (x24 + 1)))))
      (bi (r5 != 0)
       (K0 0 r5)
       (g27_7 k r4 x23 (IntKind.i64.wrap (x24 + 1))))))
   (K0 sum 0)

/-- tutor/word.Count -/
def e_word_Count {R : Type} (g27_7 : Int → Int → Int → Int → Option R) (K0 : Int → Int → Option R) (k : Int) (n : Int) : Option R :=
  l_word_alphabet k
   (fun r1 =>
    bi (!r1)
     (K0 0 1)
     (bi (decide (n < 0))
      (K0 0 1)
      (bi (k == 1)
       (l_word_Add (if 1099511627776 < n then 1099511627776 else n) 1
        (fun r2 r3 =>
         K0 r2 r3))
       (g27_7 k 1 n 0))))

def run_word_Count {R : Type} (K0 : Int → Int → Option R) : Nat → Int → Int → Int → Int → Option R
  | 0 => fun _ _ _ _ => none
  | n + 1 => s_word_Count_7 (run_word_Count K0 n) K0

def l_word_Count {R : Type} (k : Int) (n : Int) (K0 : Int → Int → Option R) : Option R := bi (decide (inI n)) (K0 (countS k n).1 (countS k n).2) none

theorem ok_word_Count {R : Type} (k : Int) (n : Int) (K0 : Int → Int → Option R) {r : R} (h : l_word_Count k n K0 = some r) : ∃ fuel, e_word_Count (run_word_Count K0 fuel) K0 k n = some r := by
  unfold l_word_Count at h
  rcases bi_some h with ⟨hs, h⟩ | ⟨_, h⟩
  · obtain ⟨hn1, hn2⟩ : -9223372036854775808 ≤ n ∧ n ≤ 9223372036854775807 := of_decide_eq_true hs
    refine ⟨n.toNat + 1, ?_⟩
    rw [← h]
    unfold e_word_Count
    rw [alpha_eq]
    by_cases h1 : 1 ≤ k ∧ k ≤ 64
    · rw [decide_eq_true h1]
      show bi false _ _ = _
      rw [br_ff]
      by_cases h2 : n < 0
      · rw [br_pos h2, countS_bad (by omega)]
      · rw [br_neg h2]
        by_cases h3 : k = 1
        · have hi : inI (if 1099511627776 < n then 1099511627776 else n) := by unfold inI; split <;> omega
          rw [br_eq h3, countS_one h2 h3, add_eq hi (by unfold inI; omega)]
          by_cases h5 : n ≥ maxC
          · have e : addC (if 1099511627776 < n then 1099511627776 else n) 1 = (0, 11) := by
              unfold maxC at h5
              unfold addC
              have e0 : (if 1099511627776 < n then 1099511627776 else n) = 1099511627776 := by split <;> omega
              rw [e0]
              decide
            rw [e, if_pos h5]
          · have e : addC (if 1099511627776 < n then 1099511627776 else n) 1 = (n + 1, 0) := by
              unfold maxC at h5
              unfold addC badC maxC
              rw [if_neg (show ¬ 1099511627776 < n by omega), if_neg (by omega), if_neg (by omega)]
            rw [e, if_neg h5]
        · rw [br_eq' h3, countS_more h1 h2 h3]
          have key : ∀ (d : Nat) (x sum : Int), x + (d : Int) = n → 0 ≤ x → 1 ≤ sum → sum ≤ 1099511627776 → run_word_Count K0 (d + 1) k sum n x = K0 (countP k sum d).1 (countP k sum d).2 := by
            intro d
            induction d with
            | zero =>
              intro x sum hx _ _ _
              show s_word_Count_7 _ _ _ _ _ _ = _
              unfold s_word_Count_7
              rw [br_neg (by omega)]
              rfl
            | succ d ih =>
              intro x sum hx hx0 hs1 hs2
              have hb1 : ¬ badC sum := by unfold badC maxC; omega
              have hb2 : ¬ badC k := by unfold badC maxC; omega
              have hm := mulC hb1 hb2
              have hsk : sum * 2 ≤ sum * k := Int.mul_le_mul_of_nonneg_left (by omega) (by omega)
              show s_word_Count_7 _ _ _ _ _ _ = _
              unfold s_word_Count_7
              rw [br_pos (by omega), mul_eq]
              unfold mulS
              rw [if_neg (by simp [hb1, hb2])]
              simp only [countP]
              by_cases c1 : sum * k > maxC
              · rw [if_pos c1, if_pos (by omega), br_eq' (by decide), br_ne (by decide)]
              · unfold maxC at c1
                rw [if_neg (by unfold maxC; omega), br_eq rfl, add_eq (by unfold inI; omega) (by unfold inI; omega)]
                unfold addC
                rw [if_neg (by unfold badC maxC; omega)]
                by_cases c2 : sum * k + 1 > maxC
                · rw [if_pos c2, if_pos c2, br_ne (by decide)]
                · unfold maxC at c2
                  rw [if_neg (by unfold maxC; omega), if_neg (by unfold maxC; omega), br_ne' rfl, wr (x + 1) (by omega) (by omega)]
                  exact ih (x + 1) (sum * k + 1) (by omega) (by omega) (by omega) (by omega)
          exact key n.toNat 0 1 (by omega) (by omega) (by omega) (by omega)
    · rw [decide_eq_false h1, countS_bad (by omega)]
      rfl
  · cases h

theorem count_eq {R : Type} (k : Int) {n : Int} (hn : inI n) (K0 : Int → Int → Option R) : l_word_Count k n K0 = K0 (countS k n).1 (countS k n).2 := by
  unfold l_word_Count
  rw [br_pos hn]

/-- slices.Reverse[[]int,int] -/
def s_slices_Reverse_int_int_1 {R : Type} (g48_1 : Int → Int → (List Int) → Option R) (K0 : (List Int) → Option R) (i : Int) (j : Int) (o0 : List Int) : Option R :=
  bi (decide (i < j))
   (bi (decide (0 ≤ j ∧ j < ((o0.length : Nat) : Int)))
    (bi (decide (0 ≤ i ∧ i < ((o0.length : Nat) : Int)))
     (bi (decide (0 ≤ i ∧ i < ((o0.length : Nat) : Int)))
      (bi (decide (0 ≤ j ∧ j < (((o0.set i.toNat (o0.getD j.toNat 0)).length : Nat) : Int)))
       (g48_1 (IntKind.i64.wrap (i + 1)) (IntKind.i64.wrap (j - 1)) ((o0.set i.toNat (o0.getD j.toNat 0)).set j.toNat (o0.getD i.toNat 0)))
       none)
      none)
     none)
    none)
   (K0 o0)

/-- slices.Reverse[[]int,int] -/
def e_slices_Reverse_int_int {R : Type} (g48_1 : Int → Int → (List Int) → Option R) (K0 : (List Int) → Option R) (o0 : List Int) : Option R :=
  g48_1 0 (IntKind.i64.wrap ((o0.length : Int) - 1)) o0

def run_slices_Reverse_int_int {R : Type} (K0 : (List Int) → Option R) : Nat → Int → Int → (List Int) → Option R
  | 0 => fun _ _ _ => none
  | n + 1 => s_slices_Reverse_int_int_1 (run_slices_Reverse_int_int K0 n) K0

def l_slices_Reverse_int_int {R : Type} (o0 : List Int) (K0 : (List Int) → Option R) : Option R := bi (decide (short o0)) (K0 o0.reverse) none

/-- Both ends turned, up to a place. -/
def revA (w : List Int) (a : Nat) : List Int := (List.range w.length).map fun t => if t < a ∨ w.length - a ≤ t then w.getD (w.length - 1 - t) 0 else w.getD t 0

theorem revA_len (w : List Int) (a : Nat) : (revA w a).length = w.length := by simp [revA]
theorem revA_get (w : List Int) (a t : Nat) (h : t < w.length) : (revA w a).getD t 0 = if t < a ∨ w.length - a ≤ t then w.getD (w.length - 1 - t) 0 else w.getD t 0 := by
  unfold revA
  rw [getD_of 0 (by simpa using h), List.getElem_map, List.getElem_range]
theorem revA_ext {w u : List Int} {a : Nat} (hl : u.length = w.length) (h : ∀ t, t < w.length → u.getD t 0 = if t < a ∨ w.length - a ≤ t then w.getD (w.length - 1 - t) 0 else w.getD t 0) : u = revA w a := by
  refine List.ext_getElem (by rw [hl, revA_len]) fun t h1 h2 => ?_
  have e1 := h t (by omega)
  rw [getD_of 0 h1] at e1
  rw [e1, ← getD_of 0 h2, revA_get w a t (by omega)]

theorem getD_set (l : List Int) (i t : Nat) (x : Int) : (l.set i x).getD t 0 = if i = t ∧ i < l.length then x else l.getD t 0 := by
  rw [List.getD_eq_getElem?_getD, List.getElem?_set, List.getD_eq_getElem?_getD]
  by_cases h : i = t
  · subst h
    by_cases h2 : i < l.length
    · simp [h2]
    · simp [h2]
  · simp [h]

theorem ok_slices_Reverse_int_int {R : Type} (o0 : List Int) (K0 : (List Int) → Option R) {r : R} (h : l_slices_Reverse_int_int o0 K0 = some r) : ∃ fuel, e_slices_Reverse_int_int (run_slices_Reverse_int_int K0 fuel) K0 o0 = some r := by
  unfold l_slices_Reverse_int_int at h
  rcases bi_some h with ⟨hs, h⟩ | ⟨_, h⟩
  · have hs : o0.length < 4611686018427387904 := of_decide_eq_true hs
    refine ⟨o0.length + 1, ?_⟩
    rw [← h]
    have key : ∀ (d a : Nat), a + d = o0.length → run_slices_Reverse_int_int K0 (d + 1) (a : Int) ((o0.length : Int) - 1 - (a : Int)) (revA o0 a) = K0 o0.reverse := by
      have fin : ∀ a : Nat, o0.length ≤ 2 * a + 1 → revA o0 a = o0.reverse := by
        intro a ha
        symm
        refine revA_ext (by simp) fun t ht => ?_
        have e : o0.reverse.getD t 0 = o0.getD (o0.length - 1 - t) 0 := by
          rw [getD_of 0 (by simpa using ht), List.getElem_reverse, getD_of 0 (by omega)]
        rw [e]
        split
        · rfl
        · have : o0.length - 1 - t = t := by omega
          rw [this]
      intro d
      induction d with
      | zero =>
        intro a ha
        show s_slices_Reverse_int_int_1 _ _ _ _ _ = _
        unfold s_slices_Reverse_int_int_1
        rw [br_neg (by omega), fin a (by omega)]
      | succ d ih =>
        intro a ha
        show s_slices_Reverse_int_int_1 _ _ _ _ _ = _
        unfold s_slices_Reverse_int_int_1
        by_cases c : (a : Int) < (o0.length : Int) - 1 - (a : Int)
        · have e1 : ((o0.length : Int) - 1 - (a : Int)).toNat = o0.length - 1 - a := by omega
          rw [br_pos c, revA_len, List.length_set, revA_len, br_pos (by omega), br_pos (by omega), br_pos (by omega), br_pos (by omega), wr _ (by omega) (by omega), wr _ (by omega) (by omega), Int.toNat_natCast, e1]
          have e2 : ((revA o0 a).set a ((revA o0 a).getD (o0.length - 1 - a) 0)).set (o0.length - 1 - a) ((revA o0 a).getD a 0) = revA o0 (a + 1) := by
            refine revA_ext (by simp [revA_len]) fun t ht => ?_
            rw [getD_set, getD_set, List.length_set, revA_len, revA_get _ _ _ ht, revA_get _ _ _ (show a < o0.length by omega), revA_get _ _ _ (show o0.length - 1 - a < o0.length by omega)]
            by_cases c1 : o0.length - 1 - a = t
            · rw [if_pos ⟨c1, by omega⟩, if_neg (by omega), if_pos (by omega)]
              congr 1
              omega
            · rw [if_neg (by omega)]
              by_cases c2 : a = t
              · rw [if_pos ⟨c2, by omega⟩, if_neg (by omega), if_pos (by omega), c2]
              · rw [if_neg (by omega)]
                by_cases c3 : t < a ∨ o0.length - a ≤ t
                · rw [if_pos c3, if_pos (by omega)]
                · rw [if_neg c3, if_neg (by omega)]
          rw [e2]
          have e3 : (o0.length : Int) - 1 - (a : Int) - 1 = (o0.length : Int) - 1 - ((a + 1 : Nat) : Int) := by omega
          rw [e3]
          exact ih (a + 1) (by omega)
        · rw [br_neg c, fin a (by omega)]
    have e0 : revA o0 0 = o0 := by
      symm
      refine revA_ext rfl fun t ht => ?_
      rw [if_neg (by omega)]
    have := key o0.length 0 (by omega)
    rw [e0] at this
    unfold e_slices_Reverse_int_int
    rw [wr _ (by omega) (by omega)]
    simpa using this
  · cases h

/-- tutor/word.At -/
def s_word_At_10 {R : Type} (g29_10 : Int → Int → (List Int) → Option R) (K0 : Int → (List Int) → Option R) (k : Int) (i : Int) (o0 : List Int) : Option R :=
  bi (decide (i > 0))
   (bi (decide (k = 0))
    none
    (bi (decide ((o0.length + [(IntKind.i64.wrap (i - 1)).tmod k].length) * 8 ≤ lim))
     (bi (decide (k = 0))
      none
      (g29_10 k (IntKind.i64.wrap ((IntKind.i64.wrap (i - 1)).tdiv k)) (o0 ++ [(IntKind.i64.wrap (i - 1)).tmod k])))
     none))
   (l_slices_Reverse_int_int o0
    (fun r2 =>
     K0 0 r2))

/-- tutor/word.At -/
def e_word_At {R : Type} (g29_10 : Int → Int → (List Int) → Option R) (K0 : Int → (List Int) → Option R) (k : Int) (i : Int) : Option R :=
  l_word_alphabet k
   (fun r1 =>
    bi (!r1)
     (K0 1 ([] : List Int))
     (bi (decide (i < 0))
      (K0 1 ([] : List Int))
      (bi (decide (i > 1099511627776))
       (K0 11 ([] : List Int))
       (bi (k == 1)
        (bi (decide (i > 4096))
         (K0 2 ([] : List Int))
         (bi (k == 1)
          (bi (decide (0 ≤ i ∧ i ≤ i ∧ i ≤ 1073741824))
           (K0 0 (List.replicate i.toNat (0 : Int)))
           none)
          (g29_10 k i ([] : List Int))))
        (bi (k == 1)
         (bi (decide (0 ≤ i ∧ i ≤ i ∧ i ≤ 1073741824))
          (K0 0 (List.replicate i.toNat (0 : Int)))
          none)
         (g29_10 k i ([] : List Int)))))))

def run_word_At {R : Type} (K0 : Int → (List Int) → Option R) : Nat → Int → Int → (List Int) → Option R
  | 0 => fun _ _ _ => none
  | n + 1 => s_word_At_10 (run_word_At K0 n) K0

def l_word_At {R : Type} (k : Int) (i : Int) (K0 : Int → (List Int) → Option R) : Option R :=
  if atE k i ≠ 0 then K0 (atE k i) [] else K0 0 (atS k i)

theorem ok_word_At {R : Type} (k : Int) (i : Int) (K0 : Int → (List Int) → Option R) {r : R} (h : l_word_At k i K0 = some r) : ∃ fuel, e_word_At (run_word_At K0 fuel) K0 k i = some r := by
  refine ⟨i.toNat + 1, ?_⟩
  rw [← h]
  unfold l_word_At e_word_At
  rw [alpha_eq]
  by_cases h1 : 1 ≤ k ∧ k ≤ 64
  · rw [decide_eq_true h1]
    show bi false _ _ = _
    rw [br_ff]
    by_cases h2 : i < 0
    · rw [br_pos h2, atE_bad (by omega)]
      rfl
    · rw [br_neg h2]
      by_cases h3 : i > 1099511627776
      · rw [br_pos h3, atE_over h1 h3]
        rfl
      · rw [br_neg h3]
        by_cases h4 : k = 1
        · rw [br_eq h4]
          by_cases h5 : i > 4096
          · rw [br_pos h5, atE_long h4 h3 h5]
            rfl
          · rw [br_neg h5, br_eq h4, br_pos (by omega), atE_ok h1 (by omega) h3 (by omega)]
            simp only [ne_eq, not_true_eq_false, if_false]
            rw [atS, if_pos h4]
        · rw [br_eq' h4, br_eq' h4, atE_ok h1 (by omega) h3 (by omega)]
          simp only [ne_eq, not_true_eq_false, if_false]
          rw [atS, if_neg h4]
          have key : ∀ (f : Nat) (x : Int) (o0 : List Int), 0 ≤ x → x ≤ (f : Int) → (o0.length : Int) + x ≤ 1099511627776 → run_word_At K0 (f + 1) k x o0 = K0 0 (o0 ++ digR k f x).reverse := by
            intro f
            induction f with
            | zero =>
              intro x o0 hx0 hx1 hb
              show s_word_At_10 _ _ _ _ _ = _
              unfold s_word_At_10
              rw [br_neg (by omega)]
              unfold l_slices_Reverse_int_int
              rw [br_pos (by unfold short; omega)]
              simp [digR]
            | succ f ih =>
              intro x o0 hx0 hx1 hb
              show s_word_At_10 _ _ _ _ _ = _
              unfold s_word_At_10
              by_cases c : x > 0
              · have e1 : (x - 1).tmod k = (x - 1) % k := Int.tmod_eq_emod_of_nonneg (by omega)
                have e2 : (x - 1).tdiv k = (x - 1) / k := Int.tdiv_eq_ediv_of_nonneg (by omega)
                have hq : 0 ≤ (x - 1) / k := Int.ediv_nonneg (by omega) (by omega)
                have hle : (x - 1) / k ≤ x - 1 := Int.ediv_le_self _ (by omega)
                rw [br_pos c, br_neg (by omega), br_pos (by simp [lim]; omega), br_neg (by omega), wr (x - 1) (by omega) (by omega), e1, e2, wr _ (by omega) (by omega)]
                rw [ih _ _ hq (by omega) (by simp; omega)]
                simp only [digR]
                rw [if_pos c, List.append_assoc, List.singleton_append]
              · rw [br_neg c]
                unfold l_slices_Reverse_int_int
                rw [br_pos (by unfold short; omega)]
                simp only [digR]
                rw [if_neg c, List.append_nil]
          exact key i.toNat i [] (by omega) (by omega) (by simp; omega)
  · rw [decide_eq_false h1, atE_bad (by omega)]
    rfl

theorem at_same {R : Type} (k i : Int) (K : Int → List Int → Option R) : l_word_At k i K = K (atE k i) (if atE k i ≠ 0 then [] else atS k i) := by
  unfold l_word_At
  by_cases h : atE k i = 0
  · have e : (if atE k i ≠ 0 then [] else atS k i) = atS k i := if_neg (by simpa using h)
    rw [if_neg (by simpa using h), e, h]
  · have e : (if atE k i ≠ 0 then [] else atS k i) = [] := if_pos h
    rw [if_pos h, e]

/-- tutor/word.Rank -/
def s_word_Rank_6 {R : Type} (g31_6 : Int → Int → (List Int) → Int → Int → Option R) (K0 : Int → Int → Option R) (k : Int) (n : Int) (x22 : List Int) (x23 : Int) (x24 : Int) : Option R :=
  bi (decide (x24 < x23))
   (bi (decide (0 ≤ x24 ∧ x24 < ((x22.length : Nat) : Int)))
    (l_word_Mul n k
     (fun r3 r4 =>
      bi (r4 == 0)
       (l_word_Add r3 (IntKind.i64.wrap ((x22.getD x24.toNat 0) + 1))
        (fun r5 r6 =>
         bi (r6 != 0)
          (K0 0 11)
          (g31_6 k r5 x22 x23 (IntKind.i64.wrap (x24 + 1)))))
       (bi (r4 != 0)
        (K0 0 11)
        (g31_6 k r3 x22 x23 (IntKind.i64.wrap (x24 + 1))))))
    none)
   (K0 n 0)

/-- tutor/word.Rank -/
def e_word_Rank {R : Type} (g31_6 : Int → Int → (List Int) → Int → Int → Option R) (K0 : Int → Int → Option R) (w : List Int) (k : Int) : Option R :=
  l_word_Check w k
   (fun r1 r2 =>
    bi (r2 != 0)
     (K0 0 r2)
     (g31_6 k 0 w (w.length : Int) 0))

def run_word_Rank {R : Type} (K0 : Int → Int → Option R) : Nat → Int → Int → (List Int) → Int → Int → Option R
  | 0 => fun _ _ _ _ _ => none
  | n + 1 => s_word_Rank_6 (run_word_Rank K0 n) K0

def l_word_Rank {R : Type} (w : List Int) (k : Int) (K0 : Int → Int → Option R) : Option R := K0 (rankR k w).1 (rankR k w).2

theorem ok_word_Rank {R : Type} (w : List Int) (k : Int) (K0 : Int → Int → Option R) {r : R} (h : l_word_Rank w k K0 = some r) : ∃ fuel, e_word_Rank (run_word_Rank K0 fuel) K0 w k = some r := by
  refine ⟨w.length + 1, ?_⟩
  rw [← h]
  unfold l_word_Rank rankR e_word_Rank l_word_Check
  dsimp only
  by_cases he : (wordS k w).2 = 0
  · obtain ⟨hk, hl, hv⟩ := wordS_zero.1 he
    rw [br_ne' he, if_neg (by omega)]
    have key : ∀ (d i : Nat) (n : Int), i + d = w.length → 0 ≤ n → n ≤ 1099511627776 → run_word_Rank K0 (d + 1) k n w (w.length : Int) (i : Int) = if rankFrom k n (w.drop i) > maxC then K0 0 11 else K0 (rankFrom k n (w.drop i)) 0 := by
      intro d
      induction d with
      | zero =>
        intro i n hi h0 h1
        show s_word_Rank_6 _ _ _ _ _ _ _ = _
        unfold s_word_Rank_6
        rw [br_neg (by omega), List.drop_eq_nil_of_le (by omega), if_neg (by unfold maxC; show ¬ n > _; omega)]
        rfl
      | succ d ih =>
        intro i n hi h0 h1
        have hlt : i < w.length := by omega
        have hx := hv w[i] (List.getElem_mem hlt)
        have hb1 : ¬ badC n := by unfold badC maxC; omega
        have hb2 : ¬ badC k := by unfold badC maxC; omega
        have hnk : 0 ≤ n * k := Int.mul_nonneg h0 (by omega)
        have hval : validW k (w.drop (i + 1)) := fun y hy => hv y (List.mem_of_mem_drop hy)
        have hge := rankFrom_ge hk.1 (w.drop (i + 1)) (n * k + w[i] + 1) (by omega) hval
        rw [List.drop_eq_getElem_cons hlt, rankFrom_cons]
        show s_word_Rank_6 _ _ _ _ _ _ _ = _
        unfold s_word_Rank_6
        rw [br_pos (by omega), br_pos (by omega), mul_eq]
        unfold mulS
        rw [if_neg (by simp [hb1, hb2]), Int.toNat_natCast, getD_of 0 hlt]
        by_cases c1 : n * k > maxC
        · rw [if_pos c1, br_eq' (by decide), br_ne (by decide), if_pos (by omega)]
        · unfold maxC at c1
          rw [if_neg (by unfold maxC; omega), br_eq rfl, wr (w[i] + 1) (by omega) (by omega), add_eq (by unfold inI; omega) (by unfold inI; omega)]
          unfold addC
          rw [if_neg (by unfold badC maxC; omega)]
          by_cases c2 : n * k + (w[i] + 1) > maxC
          · rw [if_pos c2, br_ne (by decide), if_pos (by omega)]
          · unfold maxC at c2
            have e : n * k + (w[i] + 1) = n * k + w[i] + 1 := by omega
            rw [if_neg (by unfold maxC; omega), br_ne' rfl, wr ((i : Int) + 1) (by omega) (by omega), e]
            exact ih (i + 1) (n * k + w[i] + 1) (by omega) (by omega) (by omega)
    refine (key w.length 0 0 (by omega) (by omega) (by omega)).trans ?_
    rw [List.drop_zero]
    have e : ∀ x : Int, (if x > maxC then K0 0 11 else K0 x 0) = K0 (if x > maxC then ((0 : Int), (11 : Int)) else (x, 0)).1 (if x > maxC then ((0 : Int), (11 : Int)) else (x, 0)).2 := by
      intro x
      split <;> rfl
    exact e _
  · rw [br_ne he, if_pos he]

/-- cmp.isNaN[int] -/
def l_cmp_isNaN_int {R : Type} (x : Int) (K0 : Bool → Option R) : Option R :=
  K0 (x != x)

/-- cmp.Compare[int] -/
def l_cmp_Compare_int {R : Type} (x : Int) (y : Int) (K0 : Int → Option R) : Option R :=
  l_cmp_isNaN_int x
   (fun r1 =>
    l_cmp_isNaN_int y
     (fun r2 =>
      bi r1
       (bi r2
        (K0 0)
        (K0 (-1)))
       (bi r2
        (K0 1)
        (bi (decide (x < y))
         (K0 (-1))
         (bi (decide (x > y))
          (K0 1)
          (K0 0))))))

theorem cmp_eq {R : Type} (x y : Int) (K0 : Int → Option R) : l_cmp_Compare_int x y K0 = K0 (cmpI x y) := by
  unfold l_cmp_Compare_int l_cmp_isNaN_int cmpI
  dsimp only
  rw [br_ne' rfl, br_ne' rfl]
  by_cases h1 : x < y
  · rw [br_pos h1, if_pos h1]
  · by_cases h2 : x > y
    · rw [br_neg h1, br_pos h2, if_neg h1, if_pos h2]
    · rw [br_neg h1, br_neg h2, if_neg h1, if_neg h2]

/-- slices.Compare[[]int,int] -/
def s_slices_Compare_int_int_2 {R : Type} (g43_2 : (List Int) → (List Int) → (List Int) → Int → Int → Option R) (K0 : Int → Option R) (s1 : List Int) (s2 : List Int) (x9 : List Int) (x10 : Int) (x11 : Int) : Option R :=
  bi (decide (x11 < x10))
   (bi (decide (0 ≤ x11 ∧ x11 < ((x9.length : Nat) : Int)))
    (bi (decide (x11 ≥ (s2.length : Int)))
     (K0 1)
     (bi (decide (0 ≤ x11 ∧ x11 < ((s2.length : Nat) : Int)))
      (l_cmp_Compare_int (x9.getD x11.toNat 0) (s2.getD x11.toNat 0)
       (fun r1 =>
        bi (r1 != 0)
         (K0 r1)
         (g43_2 s1 s2 x9 x10 (IntKind.i64.wrap (x11 + 1)))))
      none))
    none)
   (bi (decide ((s1.length : Int) < (s2.length : Int)))
    (K0 (-1))
    (K0 0))

/-- slices.Compare[[]int,int] -/
def e_slices_Compare_int_int {R : Type} (g43_2 : (List Int) → (List Int) → (List Int) → Int → Int → Option R) (K0 : Int → Option R) (s1 : List Int) (s2 : List Int) : Option R :=
  g43_2 s1 s2 s1 (s1.length : Int) 0

def run_slices_Compare_int_int {R : Type} (K0 : Int → Option R) : Nat → (List Int) → (List Int) → (List Int) → Int → Int → Option R
  | 0 => fun _ _ _ _ _ => none
  | n + 1 => s_slices_Compare_int_int_2 (run_slices_Compare_int_int K0 n) K0

def l_slices_Compare_int_int {R : Type} (s1 : List Int) (s2 : List Int) (K0 : Int → Option R) : Option R := bi (decide (short s1)) (K0 (lexS s1 s2)) none

theorem lexS_step {s1 s2 : List Int} {i : Nat} (h1 : i < s1.length) (h2 : i < s2.length) : lexS (s1.drop i) (s2.drop i) = if cmpI s1[i] s2[i] ≠ 0 then cmpI s1[i] s2[i] else lexS (s1.drop (i + 1)) (s2.drop (i + 1)) := by
  rw [List.drop_eq_getElem_cons h1, List.drop_eq_getElem_cons h2]
  by_cases c1 : s1[i] < s2[i]
  · have e : cmpI s1[i] s2[i] = -1 := by unfold cmpI; rw [if_pos c1]
    rw [e]
    simp [lexS, c1]
  · by_cases c2 : s1[i] > s2[i]
    · have e : cmpI s1[i] s2[i] = 1 := by unfold cmpI; rw [if_neg c1, if_pos c2]
      rw [e]
      simp [lexS, c1, c2]
    · have e : cmpI s1[i] s2[i] = 0 := by unfold cmpI; rw [if_neg c1, if_neg c2]
      rw [e]
      simp [lexS, c1, c2]

theorem ok_slices_Compare_int_int {R : Type} (s1 : List Int) (s2 : List Int) (K0 : Int → Option R) {r : R} (h : l_slices_Compare_int_int s1 s2 K0 = some r) : ∃ fuel, e_slices_Compare_int_int (run_slices_Compare_int_int K0 fuel) K0 s1 s2 = some r := by
  unfold l_slices_Compare_int_int at h
  rcases bi_some h with ⟨hs, h⟩ | ⟨_, h⟩
  · have hs : s1.length < 4611686018427387904 := of_decide_eq_true hs
    refine ⟨s1.length + 1, ?_⟩
    rw [← h]
    have key : ∀ (d i : Nat), i + d = s1.length → run_slices_Compare_int_int K0 (d + 1) s1 s2 s1 (s1.length : Int) (i : Int) = K0 (lexS (s1.drop i) (s2.drop i)) := by
      intro d
      induction d with
      | zero =>
        intro i hi
        show s_slices_Compare_int_int_2 _ _ _ _ _ _ _ = _
        unfold s_slices_Compare_int_int_2
        rw [br_neg (by omega), List.drop_eq_nil_of_le (by omega)]
        by_cases h2 : i < s2.length
        · rw [br_pos (by omega), List.drop_eq_getElem_cons h2]
          rfl
        · rw [br_neg (by omega), List.drop_eq_nil_of_le (by omega)]
          rfl
      | succ d ih =>
        intro i hi
        have h1 : i < s1.length := by omega
        show s_slices_Compare_int_int_2 _ _ _ _ _ _ _ = _
        unfold s_slices_Compare_int_int_2
        rw [br_pos (by omega), br_pos (by omega)]
        by_cases h2 : i < s2.length
        · rw [br_neg (by omega), br_pos (by omega), cmp_eq, Int.toNat_natCast, getD_of 0 h1, getD_of 0 h2, lexS_step h1 h2]
          by_cases hc : cmpI s1[i] s2[i] = 0
          · rw [br_ne' hc, if_neg (by omega), wr _ (by omega) (by omega)]
            exact ih (i + 1) (by omega)
          · rw [br_ne hc, if_pos hc]
        · rw [br_pos (by omega), List.drop_eq_getElem_cons h1, List.drop_eq_nil_of_le (show s2.length ≤ i by omega)]
          rfl
    exact key s1.length 0 (by omega)
  · cases h

/-- tutor/word.Compare -/
def l_word_Compare {R : Type} (a : List Int) (b : List Int) (K0 : Int → Option R) : Option R :=
  l_cmp_Compare_int (a.length : Int) (b.length : Int)
   (fun r1 =>
    bi (r1 != 0)
     (K0 r1)
     (l_slices_Compare_int_int a b
      (fun r2 =>
       K0 r2)))

theorem compare_eq {R : Type} {a : List Int} (ha : short a) (b : List Int) (K0 : Int → Option R) : l_word_Compare a b K0 = K0 (compareS a b) := by
  unfold l_word_Compare compareS
  rw [cmp_eq]
  unfold cmpI
  by_cases h1 : a.length < b.length
  · rw [if_pos (by omega), if_pos h1, br_ne (by omega)]
  · by_cases h2 : a.length > b.length
    · rw [if_neg (by omega), if_pos (by omega), if_neg h1, if_pos h2, br_ne (by omega)]
    · rw [if_neg (by omega), if_neg (by omega), if_neg h1, if_neg h2, br_ne' rfl]
      unfold l_slices_Compare_int_int
      rw [br_pos ha]

/-- tutor/tutorref01.Same -/
def s_tutorref01_Same_4 {R : Type} (g22_4 : (List Int) → (List Int) → Int → Option R) (K0 : Bool → Option R) (a : List Int) (b : List Int) (i : Int) : Option R :=
  bi (decide (i < (a.length : Int)))
   (bi (decide (0 ≤ i ∧ i < ((a.length : Nat) : Int)))
    (bi (decide (0 ≤ i ∧ i < ((b.length : Nat) : Int)))
     (bi ((a.getD i.toNat 0) != (b.getD i.toNat 0))
      (K0 false)
      (g22_4 a b (IntKind.i64.wrap (i + 1))))
     none)
    none)
   (K0 true)

/-- tutor/tutorref01.Same -/
def e_tutorref01_Same {R : Type} (g22_4 : (List Int) → (List Int) → Int → Option R) (K0 : Bool → Option R) (a : List Int) (b : List Int) : Option R :=
  bi ((a.length : Int) != (b.length : Int))
   (K0 false)
   (g22_4 a b 0)

def run_tutorref01_Same {R : Type} (K0 : Bool → Option R) : Nat → (List Int) → (List Int) → Int → Option R
  | 0 => fun _ _ _ => none
  | n + 1 => s_tutorref01_Same_4 (run_tutorref01_Same K0 n) K0

def l_tutorref01_Same {R : Type} (a : List Int) (b : List Int) (K0 : Bool → Option R) : Option R := bi (decide (short a)) (K0 (decide (a = b))) none

theorem findP_zip {a b : List Int} (hl : a.length = b.length) : findP (fun i => a.getD i 0 != b.getD i 0) (List.range a.length) = none ↔ a = b := by
  rw [findP_none]
  constructor
  · intro h
    refine List.ext_getElem hl fun i h1 h2 => ?_
    have := h i (by simpa using h1)
    rw [getD_of 0 h1, getD_of 0 h2] at this
    simpa using this
  · rintro rfl i _
    simp

theorem ok_tutorref01_Same {R : Type} (a : List Int) (b : List Int) (K0 : Bool → Option R) {r : R} (h : l_tutorref01_Same a b K0 = some r) : ∃ fuel, e_tutorref01_Same (run_tutorref01_Same K0 fuel) K0 a b = some r := by
  unfold l_tutorref01_Same at h
  rcases bi_some h with ⟨hs, h⟩ | ⟨_, h⟩
  · have hs : a.length < 4611686018427387904 := of_decide_eq_true hs
    refine ⟨a.length + 1, ?_⟩
    rw [← h]
    unfold e_tutorref01_Same
    by_cases hl : a.length = b.length
    · rw [br_ne' (by omega)]
      have key := scan_all (F := fun m i => run_tutorref01_Same K0 m a b (i : Int)) (fun i => a.getD i 0 != b.getD i 0) (l := List.range a.length) (A := fun i => K0 false) (B := K0 true)
        (fun m => by
          show s_tutorref01_Same_4 _ _ _ _ _ = _
          unfold s_tutorref01_Same_4
          rw [List.length_range, br_neg (by omega)])
        (fun m i hi => by
          rw [List.length_range] at hi
          show s_tutorref01_Same_4 _ _ _ _ _ = _
          unfold s_tutorref01_Same_4
          rw [br_pos (by omega), br_pos (by omega), br_pos (by omega), br_if, Int.toNat_natCast, wr _ (by omega) (by omega), List.getElem_range]
          rfl)
      rw [List.length_range] at key
      refine key.trans ?_
      by_cases e : a = b
      · rw [(findP_zip hl).2 e]
        simp [e]
      · have : findP (fun i => a.getD i 0 != b.getD i 0) (List.range a.length) ≠ none := fun h => e ((findP_zip hl).1 h)
        cases hf : findP (fun i => a.getD i 0 != b.getD i 0) (List.range a.length) with
        | none => exact absurd hf this
        | some j => simp [e]
    · rw [br_ne (by omega)]
      have e : a ≠ b := fun e => hl (by rw [e])
      simp [e]
  · cases h

theorem same_eq {R : Type} {a b : List Int} (h : short a) (K0 : Bool → Option R) : l_tutorref01_Same a b K0 = K0 (decide (a = b)) := by
  unfold l_tutorref01_Same
  rw [br_pos h]

/-- tutor/tutorlaw01.num -/
def l_tutorlaw01_num {R : Type} (e : Int) (K0 : Int → Option R) : Option R :=
  K0 e

/-- tutor/tutorlaw01.live -/
def l_tutorlaw01_live {R : Type}  (K0 : Bool → Option R) : Option R :=
  l_word_Next [1, 1] 2
   (fun r1 r2 =>
    l_word_Count 2 3
     (fun r3 r4 =>
      l_word_At 2 4
       (fun r5 r6 =>
        l_word_Rank [0, 1] 2
         (fun r7 r8 =>
          l_word_Add 1099511627776 1
           (fun r9 r10 =>
            l_word_Check [0, 2] 2
             (fun r11 r12 =>
              l_word_Compare [1] [0, 0]
               (fun r13 =>
                bi (r13 == (-1))
                 (l_tutorref01_Same r2 [0, 0, 0]
                  (fun r14 =>
                   bi r14
                    (bi (r3 == 15)
                     (l_tutorref01_Same r6 [0, 1]
                      (fun r15 =>
                       bi r15
                        (bi (r7 == 4)
                         (l_tutorlaw01_num r1
                          (fun r16 =>
                           l_tutorlaw01_num r4
                            (fun r17 =>
                             l_tutorlaw01_num r5
                              (fun r18 =>
                               l_tutorlaw01_num r8
                                (fun r19 =>
                                 bi ((IntKind.i64.wrap ((IntKind.i64.wrap ((IntKind.i64.wrap (r16 + r17)) + r18)) + r19)) == 0)
                                  (l_tutorlaw01_num r10
                                   (fun r20 =>
                                    bi (r20 == 11)
                                     (bi (r11 == 1)
                                      (l_tutorlaw01_num r12
                                       (fun r21 =>
                                        K0 (r21 == 10)))
                                      (K0 false))
                                     (K0 false)))
                                  (K0 false))))))
                         (K0 false))
                        (K0 false)))
                     (K0 false))
                    (K0 false)))
                 (K0 false))))))))

theorem live01 {R : Type} (K0 : Bool → Option R) : l_tutorlaw01_live K0 = K0 true := by
  have e1 : nextS 2 [1, 1] = (0, [0, 0, 0]) := by decide
  have e2 : countS 2 3 = (15, 0) := by decide
  have e3 : atE 2 4 = 0 := by decide
  have e4 : atS 2 4 = [0, 1] := by decide
  have e5 : rankR 2 [0, 1] = (4, 0) := by decide
  have e6 : addC 1099511627776 1 = (0, 11) := by decide
  have e7 : wordS 2 [0, 2] = (1, 10) := by decide
  have e8 : compareS [1] [0, 0] = -1 := by decide
  unfold l_tutorlaw01_live l_word_Next
  rw [e1]
  dsimp only
  rw [count_eq _ (by decide), e2]
  dsimp only
  unfold l_word_At
  rw [e3, e4, if_neg (by decide)]
  unfold l_word_Rank
  rw [e5]
  dsimp only
  rw [add_eq (by decide) (by decide), e6]
  unfold l_word_Check
  rw [e7]
  dsimp only
  rw [compare_eq (by decide), e8, br_eq rfl, same_eq (by decide)]
  rw [br_pos rfl, br_eq rfl, same_eq (by decide), br_pos rfl, br_eq rfl]
  unfold l_tutorlaw01_num
  dsimp only
  rw [br_eq (by decide), br_eq rfl, br_eq rfl]
  rfl

/-- tutor/tutorref01.Lent -/
def l_tutorref01_Lent {R : Type} (a : List Int) (K0 : Nat → (List Int) → Option R) : Option R :=
  bi (decide ((([] : List Int).length + a.length) * 8 ≤ lim))
   (bi (decide (((([] : List Int) ++ a).length + [(-771), (-772)].length) * 8 ≤ lim))
    (bi (decide (0 ≤ (a.length : Int) ∧ (a.length : Int) ≤ ((((([] : List Int) ++ a) ++ [(-771), (-772)]).length : Nat) : Int)))
     (K0 ((a.length : Int).toNat) ((([] : List Int) ++ a) ++ [(-771), (-772)]))
     none)
    none)
   none

/-- A list that is lent: with two marks behind. -/
theorem lent_eq {R : Type} (w : List Int) (K0 : Nat → List Int → Option R) (h : w.length ≤ 17592186043904) : l_tutorref01_Lent w K0 = K0 w.length (w ++ [-771, -772]) := by
  unfold l_tutorref01_Lent
  rw [br_pos (by simp [lim]; omega), br_pos (by simp [lim]; omega), br_pos (by simp; omega), Int.toNat_natCast, List.nil_append]

/-- slices.Grow[[]int,int] -/
def l_slices_Grow_int_int {R : Type} (n : Int) (K0 : Nat → (List Int) → Option R) (K1 : (List Int) → Option R) : Option R :=
  bi (decide (n < 0))
   none
   (bi (decide ((IntKind.i64.wrap (n - 0)) > 0))
    (bi (decide (0 ≤ (0 : Int) ∧ (0 : Int) ≤ (0 : Int)))
     (bi (decide (1 ≤ IntKind.i64.wrap (n - 0) ∧ IntKind.i64.wrap (n - 0) ≤ 1073741824))
      (bi (decide (0 ≤ (0 : Int) ∧ (0 : Int) ≤ (((List.replicate (IntKind.i64.wrap (n - 0)).toNat (0 : Int)).length : Nat) : Int)))
       (K0 0 (List.replicate (IntKind.i64.wrap (n - 0)).toNat (0 : Int)))
       none)
      none)
     none)
    (K1 ([] : List Int)))

/-- slices.Concat[[]int,int] -/
def s_slices_Concat_int_int_3 {R : Type} (g49_3 : (List (List Int)) → Int → (List (List Int)) → Int → Int → Option R) (g49_11 : Nat → (List (List Int)) → Int → Int → (List Int) → Option R) (g49_11b : (List (List Int)) → Int → Int → (List Int) → Option R) (K0 : Nat → (List Int) → Option R) (K1 : (List Int) → Option R) (slices : List (List Int)) (size : Int) (x9 : List (List Int)) (x10 : Int) (x11 : Int) : Option R :=
  bi (decide (x11 < x10))
   (bi (decide (0 ≤ x11 ∧ x11 < ((x9.length : Nat) : Int)))
    (bi (decide ((IntKind.i64.wrap (size + ((x9.getD x11.toNat []).length : Int))) < 0))
     none
     (g49_3 slices (IntKind.i64.wrap (size + ((x9.getD x11.toNat []).length : Int))) x9 x10 (IntKind.i64.wrap (x11 + 1))))
    none)
   (l_slices_Grow_int_int size
    (fun r1 r2 =>
     g49_11 r1 slices (slices.length : Int) 0 r2)
    (fun r3 =>
     g49_11b slices (slices.length : Int) 0 r3))

/-- slices.Concat[[]int,int] -/
def s_slices_Concat_int_int_11a {R : Type} (g49_3 : (List (List Int)) → Int → (List (List Int)) → Int → Int → Option R) (g49_11 : Nat → (List (List Int)) → Int → Int → (List Int) → Option R) (g49_11b : (List (List Int)) → Int → Int → (List Int) → Option R) (K0 : Nat → (List Int) → Option R) (K1 : (List Int) → Option R) (newslice : Nat) (x25 : List (List Int)) (x26 : Int) (x27 : Int) (o0 : List Int) : Option R :=
  bi (decide (x27 < x26))
   (bi (decide (0 ≤ x27 ∧ x27 < ((x25.length : Nat) : Int)))
    (bi (decide (((o0.take newslice).length + (x25.getD x27.toNat []).length) * 8 ≤ lim))
     (g49_11b x25 x26 (IntKind.i64.wrap (x27 + 1)) ((o0.take newslice) ++ (x25.getD x27.toNat [])))
     none)
    none)
   (K0 newslice o0)

/-- slices.Concat[[]int,int] -/
def s_slices_Concat_int_int_11b {R : Type} (g49_3 : (List (List Int)) → Int → (List (List Int)) → Int → Int → Option R) (g49_11 : Nat → (List (List Int)) → Int → Int → (List Int) → Option R) (g49_11b : (List (List Int)) → Int → Int → (List Int) → Option R) (K0 : Nat → (List Int) → Option R) (K1 : (List Int) → Option R) (x25 : List (List Int)) (x26 : Int) (x27 : Int) (o0 : List Int) : Option R :=
  bi (decide (x27 < x26))
   (bi (decide (0 ≤ x27 ∧ x27 < ((x25.length : Nat) : Int)))
    (bi (decide ((o0.length + (x25.getD x27.toNat []).length) * 8 ≤ lim))
     (g49_11b x25 x26 (IntKind.i64.wrap (x27 + 1)) (o0 ++ (x25.getD x27.toNat [])))
     none)
    none)
   (K1 o0)

/-- slices.Concat[[]int,int] -/
def e_slices_Concat_int_int {R : Type} (g49_3 : (List (List Int)) → Int → (List (List Int)) → Int → Int → Option R) (g49_11 : Nat → (List (List Int)) → Int → Int → (List Int) → Option R) (g49_11b : (List (List Int)) → Int → Int → (List Int) → Option R) (K0 : Nat → (List Int) → Option R) (K1 : (List Int) → Option R) (slices : List (List Int)) : Option R :=
  g49_3 slices 0 slices (slices.length : Int) 0

def run_slices_Concat_int_int {R : Type} (K0 : Nat → (List Int) → Option R) (K1 : (List Int) → Option R) : Nat → ((List (List Int)) → Int → (List (List Int)) → Int → Int → Option R) × (Nat → (List (List Int)) → Int → Int → (List Int) → Option R) × ((List (List Int)) → Int → Int → (List Int) → Option R)
  | 0 => (fun _ _ _ _ _ => none, fun _ _ _ _ _ => none, fun _ _ _ _ => none)
  | n + 1 => (s_slices_Concat_int_int_3 (run_slices_Concat_int_int K0 K1 n).1 (run_slices_Concat_int_int K0 K1 n).2.1 (run_slices_Concat_int_int K0 K1 n).2.2 K0 K1, s_slices_Concat_int_int_11a (run_slices_Concat_int_int K0 K1 n).1 (run_slices_Concat_int_int K0 K1 n).2.1 (run_slices_Concat_int_int K0 K1 n).2.2 K0 K1, s_slices_Concat_int_int_11b (run_slices_Concat_int_int K0 K1 n).1 (run_slices_Concat_int_int K0 K1 n).2.1 (run_slices_Concat_int_int K0 K1 n).2.2 K0 K1)

def l_slices_Concat_int_int {R : Type} (slices : List (List Int)) (K0 : Nat → (List Int) → Option R) (K1 : (List Int) → Option R) : Option R :=
  bi (decide (slices.length ≤ 1000000 ∧ slices.flatten.length ≤ 1000000000)) (K1 slices.flatten) none

theorem flat_step (l : List (List Int)) {i : Nat} (h : i < l.length) : (l.take (i + 1)).flatten = (l.take i).flatten ++ l[i] := by
  rw [List.take_add_one, List.getElem?_eq_getElem h, List.flatten_append]
  simp
theorem flat_le (l : List (List Int)) (i : Nat) : (l.take i).flatten.length ≤ l.flatten.length := by
  have h : (l.take i).flatten ++ (l.drop i).flatten = l.flatten := by rw [← List.flatten_append, List.take_append_drop]
  rw [← h, List.length_append]
  omega

theorem concat_in {R : Type} {l : List (List Int)} (h1 : l.length ≤ 1000000) (h2 : l.flatten.length ≤ 1000000000) (K0 : Nat → (List Int) → Option R) (K1 : (List Int) → Option R) : ∀ (d i : Nat), i + d = l.length →
    Reach (fun m => (run_slices_Concat_int_int K0 K1 m).2.2 l (l.length : Int) i (l.take i).flatten) (K1 l.flatten) := by
  intro d
  induction d with
  | zero =>
    intro i hi
    refine .now fun m => ?_
    rw [show (run_slices_Concat_int_int K0 K1 (m + 1)).2.2 = s_slices_Concat_int_int_11b (run_slices_Concat_int_int K0 K1 m).1 (run_slices_Concat_int_int K0 K1 m).2.1 (run_slices_Concat_int_int K0 K1 m).2.2 K0 K1 from rfl]
    unfold s_slices_Concat_int_int_11b
    rw [br_neg (by omega), List.take_of_length_le (by omega)]
  | succ d ih =>
    intro i hi
    have hi' : i < l.length := by omega
    have hs := flat_step l hi'
    have hl := flat_le l (i + 1)
    have hl2 := congrArg List.length hs
    rw [List.length_append] at hl2
    refine .step (fun m => ?_) (ih (i + 1) (by omega))
    rw [show (run_slices_Concat_int_int K0 K1 (m + 1)).2.2 = s_slices_Concat_int_int_11b (run_slices_Concat_int_int K0 K1 m).1 (run_slices_Concat_int_int K0 K1 m).2.1 (run_slices_Concat_int_int K0 K1 m).2.2 K0 K1 from rfl]
    unfold s_slices_Concat_int_int_11b
    rw [br_pos (by omega), br_pos (by omega), Int.toNat_natCast, getD_of [] hi', br_pos (by
      show _ * 8 ≤ 140737488355328
      omega), wr _ (by omega) (by omega), hs]
    rfl

theorem concat_all {R : Type} {l : List (List Int)} (h1 : l.length ≤ 1000000) (h2 : l.flatten.length ≤ 1000000000) (K0 : Nat → (List Int) → Option R) (K1 : (List Int) → Option R) : ∀ (d i : Nat), i + d = l.length →
    Reach (fun m => (run_slices_Concat_int_int K0 K1 m).1 l ((l.take i).flatten.length : Int) l (l.length : Int) i) (K1 l.flatten) := by
  intro d
  induction d with
  | zero =>
    intro i hi
    have ht : l.take i = l := List.take_of_length_le (by omega)
    have key : ∀ m, (run_slices_Concat_int_int K0 K1 (m + 1)).1 l ((l.take i).flatten.length : Int) l (l.length : Int) i =
        if l.flatten.length = 0 then (run_slices_Concat_int_int K0 K1 m).2.2 l (l.length : Int) 0 [] else (run_slices_Concat_int_int K0 K1 m).2.1 0 l (l.length : Int) 0 (List.replicate l.flatten.length 0) := by
      intro m
      rw [show (run_slices_Concat_int_int K0 K1 (m + 1)).1 = s_slices_Concat_int_int_3 (run_slices_Concat_int_int K0 K1 m).1 (run_slices_Concat_int_int K0 K1 m).2.1 (run_slices_Concat_int_int K0 K1 m).2.2 K0 K1 from rfl]
      unfold s_slices_Concat_int_int_3 l_slices_Grow_int_int
      rw [br_neg (by omega), ht, br_neg (by omega), wr _ (by omega) (by omega), Int.sub_zero]
      by_cases c : l.flatten.length = 0
      · rw [br_neg (by omega), if_pos c]
      · rw [br_pos (by omega), br_pos (by omega), br_pos (by omega), br_pos (by omega), if_neg c, Int.toNat_natCast]
    by_cases c : l.flatten.length = 0
    · refine .step (fun m => (key m).trans (if_pos c)) ?_
      exact concat_in h1 h2 K0 K1 l.length 0 (by omega)
    · refine .step (fun m => (key m).trans (if_neg c)) ?_
      have hp : 0 < l.length := by
        cases l with
        | nil => exact absurd rfl c
        | cons _ _ => simp
      have hs := flat_step l hp
      have hl := flat_le l (0 + 1)
      have hl2 := congrArg List.length hs
      rw [List.length_append] at hl2
      refine .step (fun m => ?_) (concat_in h1 h2 K0 K1 (l.length - 1) (0 + 1) (by omega))
      rw [show (run_slices_Concat_int_int K0 K1 (m + 1)).2.1 = s_slices_Concat_int_int_11a (run_slices_Concat_int_int K0 K1 m).1 (run_slices_Concat_int_int K0 K1 m).2.1 (run_slices_Concat_int_int K0 K1 m).2.2 K0 K1 from rfl]
      unfold s_slices_Concat_int_int_11a
      rw [br_pos (by omega), br_pos (by omega), show (0 : Int).toNat = 0 from rfl, getD_of [] hp, List.take_zero, br_pos (by
        show (0 + l[0].length) * 8 ≤ 140737488355328
        omega), wr _ (by omega) (by omega), hs]
      rfl
  | succ d ih =>
    intro i hi
    have hi' : i < l.length := by omega
    have hs := flat_step l hi'
    have hl := flat_le l (i + 1)
    have hl2 := congrArg List.length hs
    rw [List.length_append] at hl2
    refine .step (fun m => ?_) (ih (i + 1) (by omega))
    rw [show (run_slices_Concat_int_int K0 K1 (m + 1)).1 = s_slices_Concat_int_int_3 (run_slices_Concat_int_int K0 K1 m).1 (run_slices_Concat_int_int K0 K1 m).2.1 (run_slices_Concat_int_int K0 K1 m).2.2 K0 K1 from rfl]
    unfold s_slices_Concat_int_int_3
    rw [br_pos (by omega), br_pos (by omega), Int.toNat_natCast, getD_of [] hi', wr _ (by omega) (by omega), br_neg (by omega), wr _ (by omega) (by omega), hs, List.length_append]
    rfl

theorem ok_slices_Concat_int_int {R : Type} (slices : List (List Int)) (K0 : Nat → (List Int) → Option R) (K1 : (List Int) → Option R) {r : R} (h : l_slices_Concat_int_int slices K0 K1 = some r) : ∃ fuel, e_slices_Concat_int_int (run_slices_Concat_int_int K0 K1 fuel).1 (run_slices_Concat_int_int K0 K1 fuel).2.1 (run_slices_Concat_int_int K0 K1 fuel).2.2 K0 K1 slices = some r := by
  unfold l_slices_Concat_int_int at h
  rcases bi_some h with ⟨hs, h⟩ | ⟨_, h⟩
  · obtain ⟨h1, h2⟩ := of_decide_eq_true hs
    rw [← h]
    exact (concat_all h1 h2 K0 K1 slices.length 0 (by omega)).get
  · cases h

/-- tutor/word.Join -/
def l_word_Join {R : Type} (l : List (List Int)) (K0 : Nat → (List Int) → Option R) (K1 : (List Int) → Option R) : Option R :=
  l_slices_Concat_int_int l
   (fun r1 r2 =>
    K0 r1 r2)
   (fun r3 =>
    K1 r3)

theorem wjoin_eq {R : Type} {l : List (List Int)} (h1 : l.length ≤ 1000000) (h2 : l.flatten.length ≤ 1000000000) (K0 : Nat → (List Int) → Option R) (K1 : (List Int) → Option R) : l_word_Join l K0 K1 = K1 l.flatten := by
  unfold l_word_Join l_slices_Concat_int_int
  rw [br_pos ⟨h1, h2⟩]

/-- tutor/word.Prefixes -/
def s_word_Prefixes_3 {R : Type} (g35_3 : (List Int) → Int → Int → (List (List Int)) → Option R) (K0 : (List (List Int)) → Option R) (w : List Int) (x7 : Int) (x8 : Int) (o0 : List (List Int)) : Option R :=
  bi (decide (x8 < x7))
   (bi (decide (0 ≤ x8 ∧ x8 ≤ ((w.length : Nat) : Int)))
    (l_slices_Clone_int_int (w.take x8.toNat)
     (fun r1 =>
      bi (decide ((o0.length + [r1].length) * 24 ≤ lim))
       (g35_3 w x7 (IntKind.i64.wrap (x8 + 1)) (o0 ++ [r1]))
       none))
    none)
   (K0 o0)

/-- tutor/word.Prefixes -/
def e_word_Prefixes {R : Type} (g35_3 : (List Int) → Int → Int → (List (List Int)) → Option R) (K0 : (List (List Int)) → Option R) (w : List Int) : Option R :=
  g35_3 w (IntKind.i64.wrap ((w.length : Int) + 1)) 0 ([] : List (List Int))

def run_word_Prefixes {R : Type} (K0 : (List (List Int)) → Option R) : Nat → (List Int) → Int → Int → (List (List Int)) → Option R
  | 0 => fun _ _ _ _ => none
  | n + 1 => s_word_Prefixes_3 (run_word_Prefixes K0 n) K0

def preS (w : List Int) : List (List Int) := (List.range (w.length + 1)).map fun i => w.take i
def sufS (w : List Int) : List (List Int) := (List.range (w.length + 1)).map fun i => w.drop (w.length - i)

def l_word_Prefixes {R : Type} (w : List Int) (K0 : (List (List Int)) → Option R) : Option R := bi (decide (w.length ≤ 1000000)) (K0 (preS w)) none

theorem preLoop {R : Type} {w : List Int} (hw : w.length ≤ 1000000) (K0 : (List (List Int)) → Option R) : ∀ (d i : Nat), i + d = w.length + 1 →
    Reach (fun m => run_word_Prefixes K0 m w ((w.length : Int) + 1) (i : Int) ((List.range i).map fun i => w.take i)) (K0 (preS w)) := by
  intro d
  induction d with
  | zero =>
    intro i hi
    refine .now fun m => ?_
    dsimp only [run_word_Prefixes]
    unfold s_word_Prefixes_3
    rw [br_neg (by omega), show i = w.length + 1 by omega]
    rfl
  | succ d ih =>
    intro i hi
    refine .step (fun m => ?_) (ih (i + 1) (by omega))
    dsimp only [run_word_Prefixes]
    unfold s_word_Prefixes_3 l_slices_Clone_int_int
    rw [br_pos (by omega), br_pos (by omega), Int.toNat_natCast, br_pos (by simp [lim]; omega)]
    dsimp only
    rw [br_pos (by simp [lim]; omega), wr _ (by omega) (by omega), List.range_succ, List.map_append]
    rfl

theorem ok_word_Prefixes {R : Type} (w : List Int) (K0 : (List (List Int)) → Option R) {r : R} (h : l_word_Prefixes w K0 = some r) : ∃ fuel, e_word_Prefixes (run_word_Prefixes K0 fuel) K0 w = some r := by
  unfold l_word_Prefixes at h
  rcases bi_some h with ⟨hs, h⟩ | ⟨_, h⟩
  · have hw : w.length ≤ 1000000 := of_decide_eq_true hs
    rw [← h]
    unfold e_word_Prefixes
    rw [wr _ (by omega) (by omega)]
    exact (preLoop hw K0 (w.length + 1) 0 (by omega)).get
  · cases h

theorem wpre_eq {R : Type} {w : List Int} (hw : w.length ≤ 1000000) (K0 : (List (List Int)) → Option R) : l_word_Prefixes w K0 = K0 (preS w) := by
  unfold l_word_Prefixes
  rw [br_pos hw]
theorem preS_len (w : List Int) : (preS w).length = w.length + 1 := by simp [preS]
theorem sufS_len (w : List Int) : (sufS w).length = w.length + 1 := by simp [sufS]
theorem preS_row {w x : List Int} (h : x ∈ preS w) : x.length ≤ w.length := by
  obtain ⟨i, _, rfl⟩ := List.mem_map.1 h
  simp
  omega
theorem sufS_row {w x : List Int} (h : x ∈ sufS w) : x.length ≤ w.length := by
  obtain ⟨i, _, rfl⟩ := List.mem_map.1 h
  simp

/-- tutor/word.Suffixes -/
def s_word_Suffixes_3 {R : Type} (g36_3 : (List Int) → Int → Int → (List (List Int)) → Option R) (K0 : (List (List Int)) → Option R) (w : List Int) (x7 : Int) (x8 : Int) (o0 : List (List Int)) : Option R :=
  bi (decide (x8 < x7))
   (bi (decide (0 ≤ (IntKind.i64.wrap ((w.length : Int) - x8)) ∧ (IntKind.i64.wrap ((w.length : Int) - x8)) ≤ ((w.length : Nat) : Int)))
    (l_slices_Clone_int_int ((w.drop ((IntKind.i64.wrap ((w.length : Int) - x8)).toNat)).take (w.length - ((IntKind.i64.wrap ((w.length : Int) - x8)).toNat)))
     (fun r1 =>
      bi (decide ((o0.length + [r1].length) * 24 ≤ lim))
       (g36_3 w x7 (IntKind.i64.wrap (x8 + 1)) (o0 ++ [r1]))
       none))
    none)
   (K0 o0)

/-- tutor/word.Suffixes -/
def e_word_Suffixes {R : Type} (g36_3 : (List Int) → Int → Int → (List (List Int)) → Option R) (K0 : (List (List Int)) → Option R) (w : List Int) : Option R :=
  g36_3 w (IntKind.i64.wrap ((w.length : Int) + 1)) 0 ([] : List (List Int))

def run_word_Suffixes {R : Type} (K0 : (List (List Int)) → Option R) : Nat → (List Int) → Int → Int → (List (List Int)) → Option R
  | 0 => fun _ _ _ _ => none
  | n + 1 => s_word_Suffixes_3 (run_word_Suffixes K0 n) K0

def l_word_Suffixes {R : Type} (w : List Int) (K0 : (List (List Int)) → Option R) : Option R := bi (decide (w.length ≤ 1000000)) (K0 (sufS w)) none

theorem sufLoop {R : Type} {w : List Int} (hw : w.length ≤ 1000000) (K0 : (List (List Int)) → Option R) : ∀ (d i : Nat), i + d = w.length + 1 →
    Reach (fun m => run_word_Suffixes K0 m w ((w.length : Int) + 1) (i : Int) ((List.range i).map fun i => w.drop (w.length - i))) (K0 (sufS w)) := by
  intro d
  induction d with
  | zero =>
    intro i hi
    refine .now fun m => ?_
    dsimp only [run_word_Suffixes]
    unfold s_word_Suffixes_3
    rw [br_neg (by omega), show i = w.length + 1 by omega]
    rfl
  | succ d ih =>
    intro i hi
    refine .step (fun m => ?_) (ih (i + 1) (by omega))
    dsimp only [run_word_Suffixes]
    unfold s_word_Suffixes_3 l_slices_Clone_int_int
    have e1 : ((w.length : Int) - (i : Int)).toNat = w.length - i := by omega
    have e2 : (w.drop (w.length - i)).take (w.length - (w.length - i)) = w.drop (w.length - i) := List.take_of_length_le (by simp)
    rw [br_pos (by omega), wr ((w.length : Int) - (i : Int)) (by omega) (by omega), br_pos (by omega), e1, e2, br_pos (by simp [lim]; omega)]
    dsimp only
    rw [br_pos (by simp [lim]; omega), wr _ (by omega) (by omega), List.range_succ, List.map_append]
    rfl

theorem ok_word_Suffixes {R : Type} (w : List Int) (K0 : (List (List Int)) → Option R) {r : R} (h : l_word_Suffixes w K0 = some r) : ∃ fuel, e_word_Suffixes (run_word_Suffixes K0 fuel) K0 w = some r := by
  unfold l_word_Suffixes at h
  rcases bi_some h with ⟨hs, h⟩ | ⟨_, h⟩
  · have hw : w.length ≤ 1000000 := of_decide_eq_true hs
    rw [← h]
    unfold e_word_Suffixes
    rw [wr _ (by omega) (by omega)]
    exact (sufLoop hw K0 (w.length + 1) 0 (by omega)).get
  · cases h

theorem wsuf_eq {R : Type} {w : List Int} (hw : w.length ≤ 1000000) (K0 : (List (List Int)) → Option R) : l_word_Suffixes w K0 = K0 (sufS w) := by
  unfold l_word_Suffixes
  rw [br_pos hw]

/-- tutor/tutorref01.Join -/
def l_tutorref01_Join {R : Type} (a : List Int) (b : List Int) (K0 : (List Int) → Option R) : Option R :=
  bi (decide ((([] : List Int).length + a.length) * 8 ≤ lim))
   (bi (decide (((([] : List Int) ++ a).length + b.length) * 8 ≤ lim))
    (K0 ((([] : List Int) ++ a) ++ b))
    none)
   none

theorem join_eq {R : Type} {a b : List Int} (h : a.length + b.length ≤ 1000000000) (K0 : List Int → Option R) : l_tutorref01_Join a b K0 = K0 (a ++ b) := by
  unfold l_tutorref01_Join
  rw [br_pos (by simp [lim]; omega), br_pos (by simp [lim]; omega)]
  rfl

/-- tutor/tutorref01.Prefixes -/
def s_tutorref01_Prefixes_3 {R : Type} (g38_3 : (List Int) → Int → (List (List Int)) → Option R) (K0 : (List (List Int)) → Option R) (w : List Int) (i : Int) (o0 : List (List Int)) : Option R :=
  bi (decide (i ≤ (w.length : Int)))
   (bi (decide (0 ≤ i ∧ i ≤ ((w.length : Nat) : Int)))
    (bi (decide ((([] : List Int).length + (w.take i.toNat).length) * 8 ≤ lim))
     (bi (decide ((o0.length + [([] : List Int) ++ (w.take i.toNat)].length) * 24 ≤ lim))
      (g38_3 w (IntKind.i64.wrap (i + 1)) (o0 ++ [([] : List Int) ++ (w.take i.toNat)]))
      none)
     none)
    none)
   (K0 o0)

/-- tutor/tutorref01.Prefixes -/
def e_tutorref01_Prefixes {R : Type} (g38_3 : (List Int) → Int → (List (List Int)) → Option R) (K0 : (List (List Int)) → Option R) (w : List Int) : Option R :=
  g38_3 w 0 ([] : List (List Int))

def run_tutorref01_Prefixes {R : Type} (K0 : (List (List Int)) → Option R) : Nat → (List Int) → Int → (List (List Int)) → Option R
  | 0 => fun _ _ _ => none
  | n + 1 => s_tutorref01_Prefixes_3 (run_tutorref01_Prefixes K0 n) K0

def l_tutorref01_Prefixes {R : Type} (w : List Int) (K0 : (List (List Int)) → Option R) : Option R := bi (decide (w.length ≤ 1000000)) (K0 (preS w)) none

theorem rpreLoop {R : Type} {w : List Int} (hw : w.length ≤ 1000000) (K0 : (List (List Int)) → Option R) : ∀ (d i : Nat), i + d = w.length + 1 →
    Reach (fun m => run_tutorref01_Prefixes K0 m w (i : Int) ((List.range i).map fun i => w.take i)) (K0 (preS w)) := by
  intro d
  induction d with
  | zero =>
    intro i hi
    refine .now fun m => ?_
    dsimp only [run_tutorref01_Prefixes]
    unfold s_tutorref01_Prefixes_3
    rw [br_neg (by omega), show i = w.length + 1 by omega]
    rfl
  | succ d ih =>
    intro i hi
    refine .step (fun m => ?_) (ih (i + 1) (by omega))
    dsimp only [run_tutorref01_Prefixes]
    unfold s_tutorref01_Prefixes_3
    rw [br_pos (by omega), br_pos (by omega), Int.toNat_natCast, br_pos (by simp [lim]; omega), br_pos (by simp [lim]; omega), wr _ (by omega) (by omega), List.range_succ, List.map_append]
    rfl

theorem ok_tutorref01_Prefixes {R : Type} (w : List Int) (K0 : (List (List Int)) → Option R) {r : R} (h : l_tutorref01_Prefixes w K0 = some r) : ∃ fuel, e_tutorref01_Prefixes (run_tutorref01_Prefixes K0 fuel) K0 w = some r := by
  unfold l_tutorref01_Prefixes at h
  rcases bi_some h with ⟨hs, h⟩ | ⟨_, h⟩
  · have hw : w.length ≤ 1000000 := of_decide_eq_true hs
    rw [← h]
    unfold e_tutorref01_Prefixes
    exact (rpreLoop hw K0 (w.length + 1) 0 (by omega)).get
  · cases h

theorem rpre_eq {R : Type} {w : List Int} (hw : w.length ≤ 1000000) (K0 : (List (List Int)) → Option R) : l_tutorref01_Prefixes w K0 = K0 (preS w) := by
  unfold l_tutorref01_Prefixes
  rw [br_pos hw]

/-- tutor/tutorref01.Lists -/
def s_tutorref01_Lists_4 {R : Type} (g37_4 : (List (List Int)) → (List (List Int)) → Int → Option R) (K0 : Bool → Option R) (a : List (List Int)) (b : List (List Int)) (i : Int) : Option R :=
  bi (decide (i < (a.length : Int)))
   (bi (decide (0 ≤ i ∧ i < ((a.length : Nat) : Int)))
    (bi (decide (0 ≤ i ∧ i < ((b.length : Nat) : Int)))
     (l_tutorref01_Same (a.getD i.toNat []) (b.getD i.toNat [])
      (fun r1 =>
       bi (!r1)
        (K0 false)
        (g37_4 a b (IntKind.i64.wrap (i + 1)))))
     none)
    none)
   (K0 true)

/-- tutor/tutorref01.Lists -/
def e_tutorref01_Lists {R : Type} (g37_4 : (List (List Int)) → (List (List Int)) → Int → Option R) (K0 : Bool → Option R) (a : List (List Int)) (b : List (List Int)) : Option R :=
  bi ((a.length : Int) != (b.length : Int))
   (K0 false)
   (g37_4 a b 0)

def run_tutorref01_Lists {R : Type} (K0 : Bool → Option R) : Nat → (List (List Int)) → (List (List Int)) → Int → Option R
  | 0 => fun _ _ _ => none
  | n + 1 => s_tutorref01_Lists_4 (run_tutorref01_Lists K0 n) K0

def shortR (a : List (List Int)) : Prop := short a ∧ ∀ x ∈ a, short x
instance (a : List (List Int)) : Decidable (shortR a) := by unfold shortR; infer_instance

def l_tutorref01_Lists {R : Type} (a : List (List Int)) (b : List (List Int)) (K0 : Bool → Option R) : Option R := bi (decide (shortR a)) (K0 (decide (a = b))) none

theorem listsLoop {R : Type} {a b : List (List Int)} (ha : shortR a) (hl : a.length = b.length) (K0 : Bool → Option R) : ∀ (d i : Nat), i + d = a.length → a.take i = b.take i → Reach (fun m => run_tutorref01_Lists K0 m a b (i : Int)) (K0 (decide (a = b))) := by
  have hs : a.length < 4611686018427387904 := ha.1
  intro d
  induction d with
  | zero =>
    intro i hi ht
    refine .now fun m => ?_
    dsimp only [run_tutorref01_Lists]
    unfold s_tutorref01_Lists_4
    rw [List.take_of_length_le (by omega), List.take_of_length_le (by omega)] at ht
    rw [br_neg (by omega), ht]
    simp
  | succ d ih =>
    intro i hi ht
    have h1 : i < a.length := by omega
    have h2 : i < b.length := by omega
    by_cases he : a[i] = b[i]
    · refine .step (fun m => ?_) (ih (i + 1) (by omega) ?_)
      · dsimp only [run_tutorref01_Lists]
        unfold s_tutorref01_Lists_4
        rw [br_pos (by omega), br_pos (by omega), br_pos (by omega), Int.toNat_natCast, getD_of [] h1, getD_of [] h2, same_eq (ha.2 _ (List.getElem_mem h1)), decide_eq_true he, Bool.not_true, br_ff, wr _ (by omega) (by omega)]
        rfl
      · rw [List.take_add_one, List.take_add_one, ht, List.getElem?_eq_getElem h1, List.getElem?_eq_getElem h2, he]
    · refine .now fun m => ?_
      dsimp only [run_tutorref01_Lists]
      unfold s_tutorref01_Lists_4
      have hne : ¬ a = b := fun e => he (by subst e; rfl)
      rw [br_pos (by omega), br_pos (by omega), br_pos (by omega), Int.toNat_natCast, getD_of [] h1, getD_of [] h2, same_eq (ha.2 _ (List.getElem_mem h1)), decide_eq_false he, Bool.not_false, br_tt, decide_eq_false hne]

theorem ok_tutorref01_Lists {R : Type} (a : List (List Int)) (b : List (List Int)) (K0 : Bool → Option R) {r : R} (h : l_tutorref01_Lists a b K0 = some r) : ∃ fuel, e_tutorref01_Lists (run_tutorref01_Lists K0 fuel) K0 a b = some r := by
  unfold l_tutorref01_Lists at h
  rcases bi_some h with ⟨hs, h⟩ | ⟨_, h⟩
  · have ha : shortR a := of_decide_eq_true hs
    rw [← h]
    unfold e_tutorref01_Lists
    by_cases hl : a.length = b.length
    · obtain ⟨n, hn⟩ := (listsLoop ha hl K0 a.length 0 (by omega) (by simp)).get
      exact ⟨n, by rw [br_ne' (by omega)]; exact hn⟩
    · have hne : ¬ a = b := fun e => hl (by rw [e])
      exact ⟨0, by rw [br_ne (by omega), decide_eq_false hne]⟩
  · cases h

theorem lists_eq {R : Type} {a b : List (List Int)} (h : shortR a) (K0 : Bool → Option R) : l_tutorref01_Lists a b K0 = K0 (decide (a = b)) := by
  unfold l_tutorref01_Lists
  rw [br_pos h]

/-- tutor/tutorref01.Suffixes -/
def s_tutorref01_Suffixes_3 {R : Type} (g39_3 : (List Int) → Int → (List (List Int)) → Option R) (K0 : (List (List Int)) → Option R) (w : List Int) (i : Int) (o0 : List (List Int)) : Option R :=
  bi (decide (i ≥ 0))
   (bi (decide (0 ≤ i ∧ i ≤ ((w.length : Nat) : Int)))
    (bi (decide ((([] : List Int).length + ((w.drop i.toNat).take (w.length - i.toNat)).length) * 8 ≤ lim))
     (bi (decide ((o0.length + [([] : List Int) ++ ((w.drop i.toNat).take (w.length - i.toNat))].length) * 24 ≤ lim))
      (g39_3 w (IntKind.i64.wrap (i - 1)) (o0 ++ [([] : List Int) ++ ((w.drop i.toNat).take (w.length - i.toNat))]))
      none)
     none)
    none)
   (K0 o0)

/-- tutor/tutorref01.Suffixes -/
def e_tutorref01_Suffixes {R : Type} (g39_3 : (List Int) → Int → (List (List Int)) → Option R) (K0 : (List (List Int)) → Option R) (w : List Int) : Option R :=
  g39_3 w (w.length : Int) ([] : List (List Int))

def run_tutorref01_Suffixes {R : Type} (K0 : (List (List Int)) → Option R) : Nat → (List Int) → Int → (List (List Int)) → Option R
  | 0 => fun _ _ _ => none
  | n + 1 => s_tutorref01_Suffixes_3 (run_tutorref01_Suffixes K0 n) K0

def l_tutorref01_Suffixes {R : Type} (w : List Int) (K0 : (List (List Int)) → Option R) : Option R := bi (decide (w.length ≤ 1000000)) (K0 (sufS w)) none

theorem rsufLoop {R : Type} {w : List Int} (hw : w.length ≤ 1000000) (K0 : (List (List Int)) → Option R) : ∀ (d i : Nat), i + d = w.length + 1 →
    Reach (fun m => run_tutorref01_Suffixes K0 m w ((w.length : Int) - (i : Int)) ((List.range i).map fun i => w.drop (w.length - i))) (K0 (sufS w)) := by
  intro d
  induction d with
  | zero =>
    intro i hi
    refine .now fun m => ?_
    dsimp only [run_tutorref01_Suffixes]
    unfold s_tutorref01_Suffixes_3
    rw [br_neg (by omega), show i = w.length + 1 by omega]
    rfl
  | succ d ih =>
    intro i hi
    refine .step (fun m => ?_) (ih (i + 1) (by omega))
    dsimp only [run_tutorref01_Suffixes]
    unfold s_tutorref01_Suffixes_3
    have e1 : ((w.length : Int) - (i : Int)).toNat = w.length - i := by omega
    have e2 : (w.drop (w.length - i)).take (w.length - (w.length - i)) = w.drop (w.length - i) := List.take_of_length_le (by simp)
    have e3 : (w.length : Int) - (i : Int) - 1 = (w.length : Int) - ((i + 1 : Nat) : Int) := by omega
    rw [br_pos (by omega), br_pos (by omega), e1, e2, br_pos (by simp [lim]; omega), br_pos (by simp [lim]; omega), wr _ (by omega) (by omega), List.range_succ, List.map_append, e3]
    rfl

theorem ok_tutorref01_Suffixes {R : Type} (w : List Int) (K0 : (List (List Int)) → Option R) {r : R} (h : l_tutorref01_Suffixes w K0 = some r) : ∃ fuel, e_tutorref01_Suffixes (run_tutorref01_Suffixes K0 fuel) K0 w = some r := by
  unfold l_tutorref01_Suffixes at h
  rcases bi_some h with ⟨hs, h⟩ | ⟨_, h⟩
  · have hw : w.length ≤ 1000000 := of_decide_eq_true hs
    rw [← h]
    unfold e_tutorref01_Suffixes
    have := (rsufLoop hw K0 (w.length + 1) 0 (by omega)).get
    simpa using this
  · cases h

theorem rsuf_eq {R : Type} {w : List Int} (hw : w.length ≤ 1000000) (K0 : (List (List Int)) → Option R) : l_tutorref01_Suffixes w K0 = K0 (sufS w) := by
  unfold l_tutorref01_Suffixes
  rw [br_pos hw]

/-- tutor/tutorref01.Apart -/
def s_tutorref01_Apart_2 {R : Type} (g40_2 : Int → (List (List Int)) → Option R) (g40_5 : Int → Int → (List (List Int)) → Option R) (g40_9 : Int → (List (List Int)) → Option R) (g40_13 : Int → Nat → Int → (List (List Int)) → Option R) (g40_17 : Int → (List (List Int)) → Option R) (g40_13b : Int → Int → (List (List Int)) → Nat → Nat → Option R) (g40_20 : Int → Int → (List (List Int)) → Option R) (K0 : Bool → (List (List Int)) → Option R) (i : Int) (o0 : List (List Int)) : Option R :=
  bi (decide (i < (o0.length : Int)))
   (g40_5 i 0 o0)
   (g40_9 0 o0)

/-- tutor/tutorref01.Apart -/
def s_tutorref01_Apart_5 {R : Type} (g40_2 : Int → (List (List Int)) → Option R) (g40_5 : Int → Int → (List (List Int)) → Option R) (g40_9 : Int → (List (List Int)) → Option R) (g40_13 : Int → Nat → Int → (List (List Int)) → Option R) (g40_17 : Int → (List (List Int)) → Option R) (g40_13b : Int → Int → (List (List Int)) → Nat → Nat → Option R) (g40_20 : Int → Int → (List (List Int)) → Option R) (K0 : Bool → (List (List Int)) → Option R) (i : Int) (k : Int) (o0 : List (List Int)) : Option R :=
  bi (decide (0 ≤ i ∧ i < ((o0.length : Nat) : Int)))
   (bi (decide (k < ((o0.getD i.toNat []).length : Int)))
    (bi (decide (0 ≤ i ∧ i < ((o0.length : Nat) : Int)))
     (bi (decide (0 ≤ k ∧ k < (((o0.getD i.toNat []).length : Nat) : Int)))
      (g40_5 i (IntKind.i64.wrap (k + 1)) (o0.set i.toNat ((o0.getD i.toNat []).set k.toNat (IntKind.i64.wrap ((-1000) - i)))))
      none)
     none)
    (g40_2 (IntKind.i64.wrap (i + 1)) o0))
   none

/-- tutor/tutorref01.Apart -/
def s_tutorref01_Apart_9 {R : Type} (g40_2 : Int → (List (List Int)) → Option R) (g40_5 : Int → Int → (List (List Int)) → Option R) (g40_9 : Int → (List (List Int)) → Option R) (g40_13 : Int → Nat → Int → (List (List Int)) → Option R) (g40_17 : Int → (List (List Int)) → Option R) (g40_13b : Int → Int → (List (List Int)) → Nat → Nat → Option R) (g40_20 : Int → Int → (List (List Int)) → Option R) (K0 : Bool → (List (List Int)) → Option R) (i : Int) (o0 : List (List Int)) : Option R :=
  bi (decide (i < (o0.length : Int)))
   (bi (decide (0 ≤ i ∧ i < ((o0.length : Nat) : Int)))
    (g40_13 i i.toNat 0 o0)
    none)
   (g40_17 0 o0)

/-- tutor/tutorref01.Apart -/
def s_tutorref01_Apart_13a {R : Type} (g40_2 : Int → (List (List Int)) → Option R) (g40_5 : Int → Int → (List (List Int)) → Option R) (g40_9 : Int → (List (List Int)) → Option R) (g40_13 : Int → Nat → Int → (List (List Int)) → Option R) (g40_17 : Int → (List (List Int)) → Option R) (g40_13b : Int → Int → (List (List Int)) → Nat → Nat → Option R) (g40_20 : Int → Int → (List (List Int)) → Option R) (K0 : Bool → (List (List Int)) → Option R) (i : Int) (x : Nat) (k : Int) (o0 : List (List Int)) : Option R :=
  bi (decide (k < 6))
   (bi (decide (((o0.getD x []).length + [IntKind.i64.wrap ((-5000) - i)].length) * 8 ≤ lim))
    (g40_13b i (IntKind.i64.wrap (k + 1)) o0 x ((o0.getD x []).length + [IntKind.i64.wrap ((-5000) - i)].length))
    none)
   (g40_9 (IntKind.i64.wrap (i + 1)) o0)

/-- tutor/tutorref01.Apart -/
def s_tutorref01_Apart_17 {R : Type} (g40_2 : Int → (List (List Int)) → Option R) (g40_5 : Int → Int → (List (List Int)) → Option R) (g40_9 : Int → (List (List Int)) → Option R) (g40_13 : Int → Nat → Int → (List (List Int)) → Option R) (g40_17 : Int → (List (List Int)) → Option R) (g40_13b : Int → Int → (List (List Int)) → Nat → Nat → Option R) (g40_20 : Int → Int → (List (List Int)) → Option R) (K0 : Bool → (List (List Int)) → Option R) (i : Int) (o0 : List (List Int)) : Option R :=
  bi (decide (i < (o0.length : Int)))
   (g40_20 i 0 o0)
   (K0 true o0)

/-- tutor/tutorref01.Apart -/
def s_tutorref01_Apart_13b {R : Type} (g40_2 : Int → (List (List Int)) → Option R) (g40_5 : Int → Int → (List (List Int)) → Option R) (g40_9 : Int → (List (List Int)) → Option R) (g40_13 : Int → Nat → Int → (List (List Int)) → Option R) (g40_17 : Int → (List (List Int)) → Option R) (g40_13b : Int → Int → (List (List Int)) → Nat → Nat → Option R) (g40_20 : Int → Int → (List (List Int)) → Option R) (K0 : Bool → (List (List Int)) → Option R) (i : Int) (k : Int) (o0 : List (List Int)) (o1 : Nat) (o1_1 : Nat) : Option R :=
  bi (decide (k < 6))
   (bi (decide ((o1_1 + [IntKind.i64.wrap ((-5000) - i)].length) * 8 ≤ lim))
    (g40_13b i (IntKind.i64.wrap (k + 1)) o0 o1 (o1_1 + [IntKind.i64.wrap ((-5000) - i)].length))
    none)
   (g40_9 (IntKind.i64.wrap (i + 1)) o0)

/-- tutor/tutorref01.Apart -/
def s_tutorref01_Apart_20 {R : Type} (g40_2 : Int → (List (List Int)) → Option R) (g40_5 : Int → Int → (List (List Int)) → Option R) (g40_9 : Int → (List (List Int)) → Option R) (g40_13 : Int → Nat → Int → (List (List Int)) → Option R) (g40_17 : Int → (List (List Int)) → Option R) (g40_13b : Int → Int → (List (List Int)) → Nat → Nat → Option R) (g40_20 : Int → Int → (List (List Int)) → Option R) (K0 : Bool → (List (List Int)) → Option R) (i : Int) (k : Int) (o0 : List (List Int)) : Option R :=
  bi (decide (0 ≤ i ∧ i < ((o0.length : Nat) : Int)))
   (bi (decide (k < ((o0.getD i.toNat []).length : Int)))
    (bi (decide (0 ≤ i ∧ i < ((o0.length : Nat) : Int)))
     (bi (decide (0 ≤ k ∧ k < (((o0.getD i.toNat []).length : Nat) : Int)))
      (bi (((o0.getD i.toNat []).getD k.toNat 0) != (IntKind.i64.wrap ((-1000) - i)))
       (K0 false o0)
       (g40_20 i (IntKind.i64.wrap (k + 1)) o0))
      none)
     none)
    (g40_17 (IntKind.i64.wrap (i + 1)) o0))
   none

/-- tutor/tutorref01.Apart -/
def e_tutorref01_Apart {R : Type} (g40_2 : Int → (List (List Int)) → Option R) (g40_5 : Int → Int → (List (List Int)) → Option R) (g40_9 : Int → (List (List Int)) → Option R) (g40_13 : Int → Nat → Int → (List (List Int)) → Option R) (g40_17 : Int → (List (List Int)) → Option R) (g40_13b : Int → Int → (List (List Int)) → Nat → Nat → Option R) (g40_20 : Int → Int → (List (List Int)) → Option R) (K0 : Bool → (List (List Int)) → Option R) (o0 : List (List Int)) : Option R :=
  g40_2 0 o0

def run_tutorref01_Apart {R : Type} (K0 : Bool → (List (List Int)) → Option R) : Nat → (Int → (List (List Int)) → Option R) × (Int → Int → (List (List Int)) → Option R) × (Int → (List (List Int)) → Option R) × (Int → Nat → Int → (List (List Int)) → Option R) × (Int → (List (List Int)) → Option R) × (Int → Int → (List (List Int)) → Nat → Nat → Option R) × (Int → Int → (List (List Int)) → Option R)
  | 0 => (fun _ _ => none, fun _ _ _ => none, fun _ _ => none, fun _ _ _ _ => none, fun _ _ => none, fun _ _ _ _ _ => none, fun _ _ _ => none)
  | n + 1 => (s_tutorref01_Apart_2 (run_tutorref01_Apart K0 n).1 (run_tutorref01_Apart K0 n).2.1 (run_tutorref01_Apart K0 n).2.2.1 (run_tutorref01_Apart K0 n).2.2.2.1 (run_tutorref01_Apart K0 n).2.2.2.2.1 (run_tutorref01_Apart K0 n).2.2.2.2.2.1 (run_tutorref01_Apart K0 n).2.2.2.2.2.2 K0, s_tutorref01_Apart_5 (run_tutorref01_Apart K0 n).1 (run_tutorref01_Apart K0 n).2.1 (run_tutorref01_Apart K0 n).2.2.1 (run_tutorref01_Apart K0 n).2.2.2.1 (run_tutorref01_Apart K0 n).2.2.2.2.1 (run_tutorref01_Apart K0 n).2.2.2.2.2.1 (run_tutorref01_Apart K0 n).2.2.2.2.2.2 K0, s_tutorref01_Apart_9 (run_tutorref01_Apart K0 n).1 (run_tutorref01_Apart K0 n).2.1 (run_tutorref01_Apart K0 n).2.2.1 (run_tutorref01_Apart K0 n).2.2.2.1 (run_tutorref01_Apart K0 n).2.2.2.2.1 (run_tutorref01_Apart K0 n).2.2.2.2.2.1 (run_tutorref01_Apart K0 n).2.2.2.2.2.2 K0, s_tutorref01_Apart_13a (run_tutorref01_Apart K0 n).1 (run_tutorref01_Apart K0 n).2.1 (run_tutorref01_Apart K0 n).2.2.1 (run_tutorref01_Apart K0 n).2.2.2.1 (run_tutorref01_Apart K0 n).2.2.2.2.1 (run_tutorref01_Apart K0 n).2.2.2.2.2.1 (run_tutorref01_Apart K0 n).2.2.2.2.2.2 K0, s_tutorref01_Apart_17 (run_tutorref01_Apart K0 n).1 (run_tutorref01_Apart K0 n).2.1 (run_tutorref01_Apart K0 n).2.2.1 (run_tutorref01_Apart K0 n).2.2.2.1 (run_tutorref01_Apart K0 n).2.2.2.2.1 (run_tutorref01_Apart K0 n).2.2.2.2.2.1 (run_tutorref01_Apart K0 n).2.2.2.2.2.2 K0, s_tutorref01_Apart_13b (run_tutorref01_Apart K0 n).1 (run_tutorref01_Apart K0 n).2.1 (run_tutorref01_Apart K0 n).2.2.1 (run_tutorref01_Apart K0 n).2.2.2.1 (run_tutorref01_Apart K0 n).2.2.2.2.1 (run_tutorref01_Apart K0 n).2.2.2.2.2.1 (run_tutorref01_Apart K0 n).2.2.2.2.2.2 K0, s_tutorref01_Apart_20 (run_tutorref01_Apart K0 n).1 (run_tutorref01_Apart K0 n).2.1 (run_tutorref01_Apart K0 n).2.2.1 (run_tutorref01_Apart K0 n).2.2.2.1 (run_tutorref01_Apart K0 n).2.2.2.2.1 (run_tutorref01_Apart K0 n).2.2.2.2.2.1 (run_tutorref01_Apart K0 n).2.2.2.2.2.2 K0)

/-- Each row written full with a mark of its own, from a row on. -/
def markF (i : Nat) (o : List (List Int)) : List (List Int) := o.mapIdx fun j x => if i ≤ j then List.replicate x.length (-1000 - (j : Int)) else x

theorem markF_len (i : Nat) (o : List (List Int)) : (markF i o).length = o.length := by simp [markF]
theorem markF_get {i j : Nat} {o : List (List Int)} (h : j < o.length) : (markF i o).getD j [] = if i ≤ j then List.replicate (o.getD j []).length (-1000 - (j : Int)) else o.getD j [] := by
  unfold markF
  rw [getD_of [] (by simpa using h), List.getElem_mapIdx, getD_of [] h]

theorem rows_ext {o p : List (List Int)} (hl : o.length = p.length) (h : ∀ j, j < o.length → o.getD j [] = p.getD j []) : o = p := by
  refine List.ext_getElem hl fun j h1 h2 => ?_
  have := h j h1
  rwa [getD_of [] h1, getD_of [] h2] at this

theorem getD_setL (l : List (List Int)) (i t : Nat) (x : List Int) : (l.set i x).getD t [] = if i = t ∧ i < l.length then x else l.getD t [] := by
  rw [List.getD_eq_getElem?_getD, List.getElem?_set, List.getD_eq_getElem?_getD]
  by_cases h : i = t
  · subst h
    by_cases h2 : i < l.length
    · simp [h2]
    · simp [h2]
  · simp [h]

def apOk (o : List (List Int)) : Prop := short o ∧ ∀ x ∈ o, x.length ≤ 17592186044400
instance (o : List (List Int)) : Decidable (apOk o) := by unfold apOk; infer_instance

theorem apOk_set {o : List (List Int)} {i : Nat} {x : List Int} (h : apOk o) (hx : x.length ≤ 17592186044400) : apOk (o.set i x) := by
  refine ⟨by have := h.1; unfold short at *; simpa using this, fun y hy => ?_⟩
  rcases List.mem_or_eq_of_mem_set hy with h1 | rfl
  · exact h.2 y h1
  · exact hx

theorem apOk_row {o : List (List Int)} (h : apOk o) {j : Nat} (hj : j < o.length) : (o.getD j []).length ≤ 17592186044400 := by
  rw [getD_of [] hj]
  exact h.2 _ (List.getElem_mem hj)

def l_tutorref01_Apart {R : Type} (o0 : List (List Int)) (K0 : Bool → (List (List Int)) → Option R) : Option R := bi (decide (apOk o0)) (K0 true (markF 0 o0)) none

section
variable {R : Type} (K0 : Bool → (List (List Int)) → Option R) {v : Option R}

theorem ap_in {o : List (List Int)} {i : Nat} (hi : i < o.length) : ∀ (e k : Nat) (o' : List (List Int)), o'.length = o.length → apOk o' → k + e = (o'.getD i []).length →
    Reach (fun m => (run_tutorref01_Apart K0 m).1 ((i : Int) + 1) (o'.set i ((o'.getD i []).take k ++ List.replicate e (-1000 - (i : Int))))) v → Reach (fun m => (run_tutorref01_Apart K0 m).2.1 (i : Int) (k : Int) o') v := by
  intro e
  induction e with
  | zero =>
    intro k o' hl hok hk h
    have hs : o'.length < 4611686018427387904 := hok.1
    refine .step (fun m => ?_) h
    dsimp only [run_tutorref01_Apart]
    unfold s_tutorref01_Apart_5
    have e1 : o'.set i ((o'.getD i []).take k ++ List.replicate 0 (-1000 - (i : Int))) = o' := by
      refine rows_ext (by simp) fun j hj => ?_
      rw [getD_setL]
      split
      · rename_i hc
        rw [← hc.1, List.take_of_length_le (by omega)]
        simp
      · rfl
    rw [e1, br_pos (by omega), Int.toNat_natCast, br_neg (by omega), wr _ (by omega) (by omega)]
  | succ e ih =>
    intro k o' hl hok hk h
    have hs : o'.length < 4611686018427387904 := hok.1
    have hr := apOk_row hok (show i < o'.length by omega)
    refine .step (fun m => ?_) (ih (k + 1) (o'.set i ((o'.getD i []).set k (-1000 - (i : Int)))) (by simpa using hl) (apOk_set hok (by simpa using hr)) ?_ ?_)
    · dsimp only [run_tutorref01_Apart]
      unfold s_tutorref01_Apart_5
      rw [br_pos (by omega), Int.toNat_natCast, br_pos (by omega), br_pos (by omega), br_pos (by omega), wr _ (by omega) (by omega), wr _ (by omega) (by omega), Int.toNat_natCast]
      rfl
    · rw [getD_setL, if_pos ⟨rfl, by omega⟩, List.length_set]
      omega
    · rw [getD_setL, if_pos ⟨rfl, by omega⟩, List.set_set]
      have e2 : ((o'.getD i []).set k (-1000 - (i : Int))).take (k + 1) ++ List.replicate e (-1000 - (i : Int)) = (o'.getD i []).take k ++ List.replicate (e + 1) (-1000 - (i : Int)) := by
        have hk2 : k < (o'.getD i []).length := by omega
        rw [List.replicate_succ, List.take_add_one, List.take_set_of_le (Nat.le_refl k), List.append_assoc]
        congr 1
        have e3 : ((o'.getD i []).set k (-1000 - (i : Int)))[k]? = some (-1000 - (i : Int)) := by rw [List.getElem?_set, if_pos rfl, if_pos hk2]
        rw [e3]
        rfl
      rw [e2]
      exact h

theorem ap_mark : ∀ (d i : Nat) (o : List (List Int)), i + d = o.length → apOk o → Reach (fun m => (run_tutorref01_Apart K0 m).2.2.1 0 (markF i o)) v → Reach (fun m => (run_tutorref01_Apart K0 m).1 (i : Int) o) v := by
  intro d
  induction d with
  | zero =>
    intro i o hi hok h
    have hs : o.length < 4611686018427387904 := hok.1
    refine .step (fun m => ?_) h
    dsimp only [run_tutorref01_Apart]
    unfold s_tutorref01_Apart_2
    have e1 : markF i o = o := by
      refine rows_ext (markF_len i o) fun j hj => ?_
      rw [markF_len] at hj
      rw [markF_get hj, if_neg (by omega)]
    rw [br_neg (by omega), e1]
  | succ d ih =>
    intro i o hi hok h
    have hs : o.length < 4611686018427387904 := hok.1
    have hio : i < o.length := by omega
    have hr := apOk_row hok hio
    refine .step (fun m => ?_) (ap_in K0 hio (o.getD i []).length 0 o rfl hok (by omega) ?_)
    · dsimp only [run_tutorref01_Apart]
      unfold s_tutorref01_Apart_2
      rw [br_pos (by omega)]
      rfl
    · have e1 : (o.getD i []).take 0 ++ List.replicate (o.getD i []).length (-1000 - (i : Int)) = List.replicate (o.getD i []).length (-1000 - (i : Int)) := rfl
      rw [e1]
      have := ih (i + 1) (o.set i (List.replicate (o.getD i []).length (-1000 - (i : Int)))) (by simp; omega) (apOk_set hok (by simpa using hr)) ?_
      · exact this
      · have e2 : markF (i + 1) (o.set i (List.replicate (o.getD i []).length (-1000 - (i : Int)))) = markF i o := by
          refine rows_ext (by simp [markF_len]) fun j hj => ?_
          rw [markF_len, List.length_set] at hj
          rw [markF_get (by simpa using hj), markF_get hj, getD_setL]
          by_cases c1 : i = j
          · subst c1
            rw [if_neg (by omega), if_pos ⟨rfl, hio⟩, if_pos (Nat.le_refl _)]
          · rw [if_neg (show ¬ (i = j ∧ i < o.length) from fun h => c1 h.1)]
            by_cases c2 : i ≤ j
            · rw [if_pos c2, if_pos (by omega)]
            · rw [if_neg c2, if_neg (by omega)]
        rw [e2]
        exact h

theorem ap_grow {o : List (List Int)} {i : Nat} (hi : i < o.length) (hok : apOk o) : ∀ (e k n : Nat), k + e = 6 → n ≤ 17592186044400 + k → 1 ≤ k → Reach (fun m => (run_tutorref01_Apart K0 m).2.2.1 ((i : Int) + 1) o) v →
    Reach (fun m => (run_tutorref01_Apart K0 m).2.2.2.2.2.1 (i : Int) (k : Int) o i n) v := by
  intro e
  have hs : o.length < 4611686018427387904 := hok.1
  induction e with
  | zero =>
    intro k n hk hn h1 h
    refine .step (fun m => ?_) h
    dsimp only [run_tutorref01_Apart]
    unfold s_tutorref01_Apart_13b
    rw [br_neg (by omega), wr _ (by omega) (by omega)]
  | succ e ih =>
    intro k n hk hn h1 h
    refine .step (fun m => ?_) (ih (k + 1) (n + 1) (by omega) (by omega) (by omega) h)
    dsimp only [run_tutorref01_Apart]
    unfold s_tutorref01_Apart_13b
    rw [br_pos (by omega), List.length_singleton, br_pos (by simp [lim]; omega), wr _ (by omega) (by omega)]
    rfl

theorem ap_ext {o : List (List Int)} (hok : apOk o) : ∀ (d i : Nat), i + d = o.length → Reach (fun m => (run_tutorref01_Apart K0 m).2.2.2.2.1 0 o) v → Reach (fun m => (run_tutorref01_Apart K0 m).2.2.1 (i : Int) o) v := by
  intro d
  have hs : o.length < 4611686018427387904 := hok.1
  induction d with
  | zero =>
    intro i hi h
    refine .step (fun m => ?_) h
    dsimp only [run_tutorref01_Apart]
    unfold s_tutorref01_Apart_9
    rw [br_neg (by omega)]
  | succ d ih =>
    intro i hi h
    have hr := apOk_row hok (show i < o.length by omega)
    have h2 := ih (i + 1) (by omega) h
    refine .step (G := fun m => (run_tutorref01_Apart K0 m).2.2.2.1 (i : Int) i 0 o) (fun m => ?_) (.step (fun m => ?_) (ap_grow K0 (show i < o.length by omega) hok 5 1 ((o.getD i []).length + 1) (by omega) (by omega) (by omega) h2))
    · dsimp only [run_tutorref01_Apart]
      unfold s_tutorref01_Apart_9
      rw [br_pos (by omega), br_pos (by omega), Int.toNat_natCast]
    · dsimp only [run_tutorref01_Apart]
      unfold s_tutorref01_Apart_13a
      rw [br_pos (by omega), List.length_singleton, br_pos (by show ((o.getD i []).length + 1) * 8 ≤ 140737488355328; omega), wr _ (by omega) (by omega)]
      rfl

theorem ap_row {o : List (List Int)} (hok : apOk o) {i : Nat} (hi : i < o.length) (hm : ∀ x ∈ o.getD i [], x = -1000 - (i : Int)) : ∀ (e k : Nat), k + e = (o.getD i []).length → Reach (fun m => (run_tutorref01_Apart K0 m).2.2.2.2.1 ((i : Int) + 1) o) v →
    Reach (fun m => (run_tutorref01_Apart K0 m).2.2.2.2.2.2 (i : Int) (k : Int) o) v := by
  intro e
  have hs : o.length < 4611686018427387904 := hok.1
  have hr := apOk_row hok hi
  induction e with
  | zero =>
    intro k hk h
    refine .step (fun m => ?_) h
    dsimp only [run_tutorref01_Apart]
    unfold s_tutorref01_Apart_20
    rw [br_pos (by omega), Int.toNat_natCast, br_neg (by omega), wr _ (by omega) (by omega)]
  | succ e ih =>
    intro k hk h
    refine .step (fun m => ?_) (ih (k + 1) (by omega) h)
    dsimp only [run_tutorref01_Apart]
    unfold s_tutorref01_Apart_20
    have hx : (o.getD i []).getD k 0 = -1000 - (i : Int) := by
      rw [getD_of 0 (by omega)]
      exact hm _ (List.getElem_mem _)
    rw [br_pos (by omega), Int.toNat_natCast, br_pos (by omega), br_pos (by omega), br_pos (by omega), Int.toNat_natCast, hx, wr (-1000 - (i : Int)) (by omega) (by omega), br_ne' rfl, wr _ (by omega) (by omega)]
    rfl

theorem ap_look {o : List (List Int)} (hok : apOk o) (hm : ∀ i, i < o.length → ∀ x ∈ o.getD i [], x = -1000 - (i : Int)) : ∀ (d i : Nat), i + d = o.length → Reach (fun m => (run_tutorref01_Apart K0 m).2.2.2.2.1 (i : Int) o) (K0 true o) := by
  intro d
  have hs : o.length < 4611686018427387904 := hok.1
  induction d with
  | zero =>
    intro i hi
    refine .now fun m => ?_
    dsimp only [run_tutorref01_Apart]
    unfold s_tutorref01_Apart_17
    rw [br_neg (by omega)]
  | succ d ih =>
    intro i hi
    refine .step (fun m => ?_) (ap_row K0 hok (show i < o.length by omega) (hm i (by omega)) (o.getD i []).length 0 (by omega) (ih (i + 1) (by omega)))
    dsimp only [run_tutorref01_Apart]
    unfold s_tutorref01_Apart_17
    rw [br_pos (by omega)]
    rfl
end

theorem ok_tutorref01_Apart {R : Type} (o0 : List (List Int)) (K0 : Bool → (List (List Int)) → Option R) {r : R} (h : l_tutorref01_Apart o0 K0 = some r) : ∃ fuel, e_tutorref01_Apart (run_tutorref01_Apart K0 fuel).1 (run_tutorref01_Apart K0 fuel).2.1 (run_tutorref01_Apart K0 fuel).2.2.1 (run_tutorref01_Apart K0 fuel).2.2.2.1 (run_tutorref01_Apart K0 fuel).2.2.2.2.1 (run_tutorref01_Apart K0 fuel).2.2.2.2.2.1 (run_tutorref01_Apart K0 fuel).2.2.2.2.2.2 K0 o0 = some r := by
  unfold l_tutorref01_Apart at h
  rcases bi_some h with ⟨hs, h⟩ | ⟨_, h⟩
  · have hok : apOk o0 := of_decide_eq_true hs
    rw [← h]
    unfold e_tutorref01_Apart
    have hok2 : apOk (markF 0 o0) := by
      refine ⟨by unfold short; rw [markF_len]; exact hok.1, fun x hx => ?_⟩
      obtain ⟨j, hj, rfl⟩ := List.getElem_of_mem hx
      rw [markF_len] at hj
      rw [← getD_of [] (by rw [markF_len]; exact hj), markF_get hj, if_pos (Nat.zero_le _), List.length_replicate]
      exact apOk_row hok hj
    have hm : ∀ i, i < (markF 0 o0).length → ∀ x ∈ (markF 0 o0).getD i [], x = -1000 - (i : Int) := by
      intro i hi x hx
      rw [markF_len] at hi
      rw [markF_get hi, if_pos (Nat.zero_le _)] at hx
      exact List.eq_of_mem_replicate hx
    exact (ap_mark K0 o0.length 0 o0 (by omega) hok (ap_ext K0 hok2 (markF 0 o0).length 0 (by omega) (ap_look K0 hok2 hm (markF 0 o0).length 0 (by omega)))).get
  · cases h

theorem apart_eq {R : Type} {o0 : List (List Int)} (h : apOk o0) (K0 : Bool → (List (List Int)) → Option R) : l_tutorref01_Apart o0 K0 = K0 true (markF 0 o0) := by
  unfold l_tutorref01_Apart
  rw [br_pos h]

/-- tutor/tutorref01.Kept -/
def l_tutorref01_Kept {R : Type} (b : Nat) (a : List Int) (o0 : List Int) (K0 : Bool → (List Int) → Option R) : Option R :=
  bi (decide (0 ≤ (IntKind.i64.wrap (((b : Nat) : Int) + 2)) ∧ (IntKind.i64.wrap (((b : Nat) : Int) + 2)) ≤ ((o0.length - 0 : Nat) : Int)))
   (l_tutorref01_Same (o0.take b) a
    (fun r1 =>
     bi r1
      (bi (decide (0 ≤ ((b : Nat) : Int) ∧ ((b : Nat) : Int) < (((IntKind.i64.wrap (((b : Nat) : Int) + 2)).toNat : Nat) : Int)))
       (bi (((o0.take ((IntKind.i64.wrap (((b : Nat) : Int) + 2)).toNat)).getD (((b : Nat) : Int).toNat) 0) == (-771))
        (bi (decide (0 ≤ (IntKind.i64.wrap (((b : Nat) : Int) + 1)) ∧ (IntKind.i64.wrap (((b : Nat) : Int) + 1)) < (((IntKind.i64.wrap (((b : Nat) : Int) + 2)).toNat : Nat) : Int)))
         (K0 (((o0.take ((IntKind.i64.wrap (((b : Nat) : Int) + 2)).toNat)).getD ((IntKind.i64.wrap (((b : Nat) : Int) + 1)).toNat) 0) == (-772)) o0)
         none)
        (K0 false o0))
       none)
      (K0 false o0)))
   none

theorem kept_eq {R : Type} (w : List Int) (K0 : Bool → List Int → Option R) (h : w.length ≤ 17592186043904) : l_tutorref01_Kept w.length w (w ++ [-771, -772]) K0 = K0 true (w ++ [-771, -772]) := by
  unfold l_tutorref01_Kept
  have e1 : IntKind.i64.wrap ((w.length : Int) + 2) = ((w.length + 2 : Nat) : Int) := by rw [wr _ (by omega) (by omega)]; rfl
  have e2 : IntKind.i64.wrap ((w.length : Int) + 1) = ((w.length + 1 : Nat) : Int) := by rw [wr _ (by omega) (by omega)]; rfl
  have hl : (w ++ [-771, -772]).length = w.length + 2 := by simp
  rw [e1, e2, hl, br_pos (by omega), List.take_left, same_eq (by unfold short; omega)]
  simp only [Int.toNat_natCast, Nat.zero_add, Nat.sub_zero]
  have g1 : (w ++ [-771, -772]).getD w.length 0 = -771 := by simp [List.getD_eq_getElem?_getD]
  have g2 : (w ++ [-771, -772]).getD (w.length + 1) 0 = -772 := by
    rw [List.getD_eq_getElem?_getD, List.getElem?_append, if_neg (by omega)]
    simp
  have ht : (w ++ [-771, -772]).take (w.length + 2) = w ++ [-771, -772] := List.take_of_length_le (by simp)
  try rw [ht]
  rw [g1, g2, br_pos trivial, br_pos (by omega), br_eq rfl, br_pos (by omega)]
  rfl

/-- tutor/tutorlaw01.WordParts -/
def l_tutorlaw01_WordParts {R : Type} (a : List Int) (b : List Int) (c : List Int) (K0 : Bool → Option R) : Option R :=
  bi (decide ((a.length : Int) > 300))
   (l_tutorlaw01_live
    (fun r1 =>
     K0 r1))
   (bi (decide ((b.length : Int) > 300))
    (l_tutorlaw01_live
     (fun r2 =>
      K0 r2))
    (bi (decide ((c.length : Int) > 300))
     (l_tutorlaw01_live
      (fun r3 =>
       K0 r3))
     (l_tutorref01_Lent a
      (fun r4 r5 =>
       l_word_Join [r5.take r4, b, c]
        (fun r6 r7 =>
         l_word_Prefixes (r5.take r4)
          (fun r8 =>
           l_word_Suffixes (r5.take r4)
            (fun r9 =>
             l_tutorref01_Join a b
              (fun r10 =>
               l_tutorref01_Join r10 c
                (fun r11 =>
                 l_tutorref01_Same (r7.take r6) r11
                  (fun r12 =>
                   bi (!r12)
                    (K0 false)
                    (l_tutorref01_Prefixes a
                     (fun r13 =>
                      l_tutorref01_Lists r8 r13
                       (fun r14 =>
                        bi (!r14)
                         (K0 false)
                         (l_tutorref01_Suffixes a
                          (fun r15 =>
                           l_tutorref01_Lists r9 r15
                            (fun r16 =>
                             bi (!r16)
                              (K0 false)
                              (l_word_Join ([] : List (List Int))
                               (fun r17 r18 =>
                                bi (((r17 : Nat) : Int) != 0)
                                 (K0 false)
                                 (bi (decide ((r8.length + r9.length) * 24 ≤ lim))
                                  (bi (decide (((r8 ++ r9).length + [r7.take r6].length) * 24 ≤ lim))
                                   (l_tutorref01_Apart ((r8 ++ r9) ++ [r7.take r6])
                                    (fun r19 r20 =>
                                     bi r19
                                      (l_tutorref01_Kept r4 a r5
                                       (fun r21 r22 =>
                                        bi r21
                                         (l_tutorlaw01_live
                                          (fun r23 =>
                                           K0 r23))
                                         (K0 false)))
                                      (K0 false)))
                                   none)
                                  none))
                               (fun r24 =>
                                bi ((r24.length : Int) != 0)
                                 (K0 false)
                                 (bi (decide ((r8.length + r9.length) * 24 ≤ lim))
                                  (bi (decide (((r8 ++ r9).length + [r7.take r6].length) * 24 ≤ lim))
                                   (l_tutorref01_Apart ((r8 ++ r9) ++ [r7.take r6])
                                    (fun r25 r26 =>
                                     bi r25
                                      (l_tutorref01_Kept r4 a r5
                                       (fun r27 r28 =>
                                        bi r27
                                         (l_tutorlaw01_live
                                          (fun r29 =>
                                           K0 r29))
                                         (K0 false)))
                                      (K0 false)))
                                   none)
                                  none)))))))))))))))
        (fun r30 =>
         l_word_Prefixes (r5.take r4)
          (fun r31 =>
           l_word_Suffixes (r5.take r4)
            (fun r32 =>
             l_tutorref01_Join a b
              (fun r33 =>
               l_tutorref01_Join r33 c
                (fun r34 =>
                 l_tutorref01_Same r30 r34
                  (fun r35 =>
                   bi (!r35)
                    (K0 false)
                    (l_tutorref01_Prefixes a
                     (fun r36 =>
                      l_tutorref01_Lists r31 r36
                       (fun r37 =>
                        bi (!r37)
                         (K0 false)
                         (l_tutorref01_Suffixes a
                          (fun r38 =>
                           l_tutorref01_Lists r32 r38
                            (fun r39 =>
                             bi (!r39)
                              (K0 false)
                              (l_word_Join ([] : List (List Int))
                               (fun r40 r41 =>
                                bi (((r40 : Nat) : Int) != 0)
                                 (K0 false)
                                 (bi (decide ((r31.length + r32.length) * 24 ≤ lim))
                                  (bi (decide (((r31 ++ r32).length + [r30].length) * 24 ≤ lim))
                                   (l_tutorref01_Apart ((r31 ++ r32) ++ [r30])
                                    (fun r42 r43 =>
                                     bi r42
                                      (l_tutorref01_Kept r4 a r5
                                       (fun r44 r45 =>
                                        bi r44
                                         (l_tutorlaw01_live
                                          (fun r46 =>
                                           K0 r46))
                                         (K0 false)))
                                      (K0 false)))
                                   none)
                                  none))
                               (fun r47 =>
                                bi ((r47.length : Int) != 0)
                                 (K0 false)
                                 (bi (decide ((r31.length + r32.length) * 24 ≤ lim))
                                  (bi (decide (((r31 ++ r32).length + [r30].length) * 24 ≤ lim))
                                   (l_tutorref01_Apart ((r31 ++ r32) ++ [r30])
                                    (fun r48 r49 =>
                                     bi r48
                                      (l_tutorref01_Kept r4 a r5
                                       (fun r50 r51 =>
                                        bi r50
                                         (l_tutorlaw01_live
                                          (fun r52 =>
                                           K0 r52))
                                         (K0 false)))
                                      (K0 false)))
                                   none)
                                  none)))))))))))))))))))

theorem law_tutorlaw01_WordParts {R : Type} (a b c : List Int) (K0 : Bool → Option R) (ha : okW a) (hb : okW b) (hc : okW c) : l_tutorlaw01_WordParts a b c K0 = K0 true := by
  unfold l_tutorlaw01_WordParts
  by_cases l1 : (a.length : Int) > 300
  · rw [br_pos l1, live01]
  by_cases l2 : (b.length : Int) > 300
  · rw [br_neg l1, br_pos l2, live01]
  by_cases l3 : (c.length : Int) > 300
  · rw [br_neg l1, br_neg l2, br_pos l3, live01]
  have p1 := preS_len a
  have p2 := sufS_len a
  have f : [a, b, c].flatten = (a ++ b) ++ c := by simp
  have s0 : short ((a ++ b) ++ c) := by unfold short; rw [List.length_append, List.length_append]; omega
  have s1 : shortR (preS a) := ⟨by unfold short; omega, fun x hx => by have := preS_row hx; unfold short; omega⟩
  have s2 : shortR (sufS a) := ⟨by unfold short; omega, fun x hx => by have := sufS_row hx; unfold short; omega⟩
  rw [br_neg l1, br_neg l2, br_neg l3, lent_eq _ _ ha.1, List.take_left, wjoin_eq (by simp) (by rw [f, List.length_append, List.length_append]; omega), f, wpre_eq (by omega)]
  try dsimp only
  rw [wsuf_eq (by omega)]
  try dsimp only
  rw [join_eq (by omega)]
  try dsimp only
  rw [join_eq (by rw [List.length_append]; omega)]
  try dsimp only
  rw [same_eq s0]
  try dsimp only
  rw [decide_eq_true rfl, Bool.not_true, br_ff, rpre_eq (by omega)]
  try dsimp only
  rw [lists_eq s1]
  try dsimp only
  rw [decide_eq_true rfl, Bool.not_true, br_ff, rsuf_eq (by omega)]
  try dsimp only
  rw [lists_eq s2]
  try dsimp only
  rw [decide_eq_true rfl, Bool.not_true, br_ff, wjoin_eq (by simp) (by simp)]
  try dsimp only
  rw [br_ne' (by simp), br_pos (by
    show _ * 24 ≤ 140737488355328
    omega), br_pos (by
    rw [List.length_append]
    show (_ + 1) * 24 ≤ 140737488355328
    omega), apart_eq ⟨by unfold short; rw [List.length_append, List.length_append]; simp only [List.length_singleton]; omega, fun x hx => by
      rcases List.mem_append.1 hx with hx | hx
      · rcases List.mem_append.1 hx with hx | hx
        · have := preS_row hx; omega
        · have := sufS_row hx; omega
      · rw [List.mem_singleton] at hx
        subst hx
        rw [List.length_append, List.length_append]
        omega⟩]
  try dsimp only
  rw [br_tt, kept_eq _ _ ha.1, br_tt, live01]

end
end Go.Ev
