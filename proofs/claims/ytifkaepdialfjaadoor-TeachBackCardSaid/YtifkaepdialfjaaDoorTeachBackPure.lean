/- Functions of the program, as trees of tests over numbers and lists; no program in sight. -/
import Derived.Test.YtifkaepdialfjaaDoorEvMach
import Derived.Test.YtifkaepdialfjaaDoorEvWord
import Derived.Test.YtifkaepdialfjaaDoorEvNum
import Derived.Test.YtifkaepdialfjaaDoorEvTeach
namespace Go.Ev
noncomputable section
set_option linter.unusedVariables false
set_option linter.unusedSimpArgs false
set_option maxRecDepth 100000
set_option maxHeartbeats 4000000

/-- tutor/text.Number -/
def s_text_Number_4 {R : Type} (g22_4 : (List Int) → Int → Int → Int → Option R) (K0 : Int → Int → Int → Option R) (b : List Int) (vat : Int) (n : Int) (i : Int) : Option R :=
  bi (decide (i < (b.length : Int)))
   (bi (decide (0 ≤ i ∧ i < ((b.length : Nat) : Int)))
    (bi (decide ((b.getD i.toNat 0) ≥ 48))
     (bi (decide (0 ≤ i ∧ i < ((b.length : Nat) : Int)))
      (bi (decide ((b.getD i.toNat 0) ≤ 57))
       (bi ((IntKind.i64.wrap (i - vat)) == 4)
        (K0 0 i 6)
        (bi ((IntKind.i64.wrap (i - vat)) == 1)
         (bi (decide (0 ≤ vat ∧ vat < ((b.length : Nat) : Int)))
          (bi ((b.getD vat.toNat 0) == 48)
           (K0 0 i 6)
           (bi (decide (0 ≤ i ∧ i < ((b.length : Nat) : Int)))
            (g22_4 b vat (IntKind.i64.wrap ((IntKind.i64.wrap (10 * n)) + (IntKind.i64.wrap (IntKind.u8.wrap ((b.getD i.toNat 0) - 48))))) (IntKind.i64.wrap (i + 1)))
            none))
          none)
         (bi (decide (0 ≤ i ∧ i < ((b.length : Nat) : Int)))
          (g22_4 b vat (IntKind.i64.wrap ((IntKind.i64.wrap (10 * n)) + (IntKind.i64.wrap (IntKind.u8.wrap ((b.getD i.toNat 0) - 48))))) (IntKind.i64.wrap (i + 1)))
          none)))
       (bi (i == vat)
        (K0 0 vat 6)
        (K0 n i 0)))
      none)
     (bi (i == vat)
      (K0 0 vat 6)
      (K0 n i 0)))
    none)
   (bi (i == vat)
    (K0 0 vat 6)
    (K0 n i 0))

/-- tutor/text.Number -/
def e_text_Number {R : Type} (g22_4 : (List Int) → Int → Int → Int → Option R) (K0 : Int → Int → Int → Option R) (b : List Int) (vat : Int) : Option R :=
  bi (decide (vat < 0))
   (K0 0 0 1)
   (bi (decide (vat > (b.length : Int)))
    (K0 0 0 1)
    (g22_4 b vat 0 vat))

def run_text_Number {R : Type} (K0 : Int → Int → Int → Option R) : Nat → (List Int) → Int → Int → Int → Option R
  | 0 => fun _ _ _ _ => none
  | n + 1 => s_text_Number_4 (run_text_Number K0 n) K0

def l_text_Number {R : Type} (b : List Int) (vat : Int) (K0 : Int → Int → Int → Option R) : Option R := bi (decide (short b)) (K0 (numS b vat).1 (numS b vat).2.1 (numS b vat).2.2) none

theorem number_run {R : Type} {b : List Int} (hs : short b) {a : Nat} (ha : a ≤ b.length) (K0 : Int → Int → Int → Option R) :
    ∀ (d i k : Nat) (z : Bool) (n : Int), i + d = b.length → i = a + k → k ≤ 4 → 0 ≤ n → n < 10 ^ k → (0 < k → z = decide (b.getD a 0 = 48)) →
      Reach (fun m => run_text_Number K0 m b (a : Int) n (i : Int)) (K0 (numR (b.drop i) k z n).1 ((a : Int) + (numR (b.drop i) k z n).2.1) (numR (b.drop i) k z n).2.2) := by
  unfold short at hs
  intro d
  induction d with
  | zero =>
    intro i k z n hi hk hk4 hn0 hn1 hz
    refine .now fun m => ?_
    rw [show run_text_Number K0 (m + 1) = s_text_Number_4 (run_text_Number K0 m) K0 from rfl]
    unfold s_text_Number_4
    rw [br_neg (by omega), List.drop_of_length_le (by omega)]
    simp only [numR]
    by_cases c : k = 0
    · rw [if_pos c, br_eq (by omega)]
      simp
    · rw [if_neg c, br_eq' (by omega)]
      dsimp only
      congr 1
      omega
  | succ d ih =>
    intro i k z n hi hk hk4 hn0 hn1 hz
    have h1 : i < b.length := by omega
    have n4 : n < 10000 := by
      have : (10 : Int) ^ k ≤ 10 ^ 4 := by
        have : (10 : Nat) ^ k ≤ 10 ^ 4 := Nat.pow_le_pow_right (by decide) hk4
        exact_mod_cast this
      omega
    rw [List.drop_eq_getElem_cons h1]
    simp only [numR]
    have stop : ∀ m : Nat, (bi ((i : Int) == (a : Int)) (K0 0 (a : Int) 6) (K0 n (i : Int) 0)) = K0 (if k = 0 then ((0 : Int), 0, (6 : Int)) else (n, k, 0)).1 ((a : Int) + (if k = 0 then ((0 : Int), 0, (6 : Int)) else (n, k, 0)).2.1) (if k = 0 then ((0 : Int), 0, (6 : Int)) else (n, k, 0)).2.2 := by
      intro _
      by_cases c : k = 0
      · rw [if_pos c, br_eq (by omega)]
        simp
      · rw [if_neg c, br_eq' (by omega)]
        dsimp only
        congr 1
        omega
    by_cases c1 : isDig b[i]
    · rw [if_pos c1]
      have c1' := c1
      unfold isDig at c1'
      by_cases c2 : k = 4 ∨ (k = 1 ∧ z = true)
      · rw [if_pos c2]
        refine .now fun m => ?_
        rw [show run_text_Number K0 (m + 1) = s_text_Number_4 (run_text_Number K0 m) K0 from rfl]
        unfold s_text_Number_4
        rw [br_pos (by omega), br_pos (by omega), Int.toNat_natCast, getD_of 0 h1, br_pos (by omega), br_pos (by omega), br_pos (by omega), wr ((i : Int) - a) (by omega) (by omega)]
        rcases c2 with c2 | ⟨c2, c3⟩
        · rw [br_eq (by omega)]
          dsimp only
          congr 1
          omega
        · have hz := hz (by omega)
          rw [c3] at hz
          have hz := of_decide_eq_true hz.symm
          rw [br_eq' (by omega), br_eq (by omega), br_pos (by omega), Int.toNat_natCast, hz, br_eq rfl]
          dsimp only
          congr 1
          omega
      · rw [if_neg c2]
        have hp : (10 : Int) ^ (k + 1) = 10 ^ k * 10 := Int.pow_succ 10 k
        refine .step (fun m => ?_) (ih (i + 1) (k + 1) _ (10 * n + (b[i] - 48)) (by omega) (by omega) (by omega) (by omega) (by omega) ?_)
        · rw [show run_text_Number K0 (m + 1) = s_text_Number_4 (run_text_Number K0 m) K0 from rfl]
          unfold s_text_Number_4
          rw [br_pos (by omega), br_pos (by omega), Int.toNat_natCast, getD_of 0 h1, br_pos (by omega), br_pos (by omega), br_pos (by omega), wr ((i : Int) - a) (by omega) (by omega), br_eq' (by omega)]
          have e1 : IntKind.i64.wrap (IntKind.i64.wrap (10 * n) + IntKind.i64.wrap (IntKind.u8.wrap (b[i] - 48))) = 10 * n + (b[i] - 48) := by
            rw [wr (10 * n) (by omega) (by omega), wr8 (b[i] - 48) (by omega) (by omega), wr (b[i] - 48) (by omega) (by omega), wr _ (by omega) (by omega)]
          rw [e1, wr ((i : Int) + 1) (by omega) (by omega)]
          by_cases c3 : k = 1
          · have hz := hz (by omega)
            have hzf : ¬ b.getD a 0 = 48 := by
              intro h
              exact c2 (.inr ⟨c3, by rw [hz]; exact decide_eq_true h⟩)
            rw [br_eq (by omega), br_pos (by omega), Int.toNat_natCast, br_eq' hzf, br_pos (by omega)]
            rfl
          · rw [br_eq' (by omega), br_pos (by omega)]
            rfl
        · intro _
          by_cases c3 : k = 0
          · rw [if_pos c3]
            have e : i = a := by omega
            subst e
            rw [getD_of 0 h1]
          · rw [if_neg c3]
            exact hz (by omega)
    · rw [if_neg c1]
      refine .now fun m => ?_
      rw [show run_text_Number K0 (m + 1) = s_text_Number_4 (run_text_Number K0 m) K0 from rfl]
      unfold s_text_Number_4
      rw [br_pos (by omega), br_pos (by omega), Int.toNat_natCast, getD_of 0 h1]
      unfold isDig at c1
      by_cases c2 : b[i] ≥ 48
      · rw [br_pos c2, br_pos (by omega), br_neg (by omega)]
        exact stop m
      · rw [br_neg c2]
        exact stop m

theorem ok_text_Number {R : Type} (b : List Int) (vat : Int) (K0 : Int → Int → Int → Option R) {r : R} (h : l_text_Number b vat K0 = some r) : ∃ fuel, e_text_Number (run_text_Number K0 fuel) K0 b vat = some r := by
  unfold l_text_Number at h
  rcases bi_some h with ⟨hs, h⟩ | ⟨_, h⟩
  · have hs : short b := of_decide_eq_true hs
    rw [← h]
    unfold numS
    by_cases c : vat < 0
    · rw [if_pos (.inl c)]
      exact ⟨0, by unfold e_text_Number; rw [br_pos c]⟩
    · by_cases c2 : vat > (b.length : Int)
      · rw [if_pos (.inr c2)]
        exact ⟨0, by unfold e_text_Number; rw [br_neg c, br_pos c2]⟩
      · rw [if_neg (by omega)]
        obtain ⟨a, rfl⟩ : ∃ a : Nat, vat = a := ⟨vat.toNat, by omega⟩
        obtain ⟨n, hn⟩ := (number_run hs (a := a) (by omega) K0 (b.length - a) a 0 false 0 (by omega) (by omega) (by omega) (by omega) (by omega) (by omega)).get
        refine ⟨n, ?_⟩
        unfold e_text_Number
        rw [br_neg c, br_neg c2, hn, Int.toNat_natCast]
        rfl
  · cases h

theorem number_eq {R : Type} {b : List Int} (hs : short b) (vat : Int) (K0 : Int → Int → Int → Option R) : l_text_Number b vat K0 = K0 (numS b vat).1 (numS b vat).2.1 (numS b vat).2.2 := br_pos hs

/-- tutor/teach.numbers -/
def s_teach_numbers_1 {R : Type} (g18_1 : (List Int) → Int → (List Int) → Option R) (K0 : Int → Int → (List Int) → Option R) (b : List Int) (vat : Int) (o0 : List Int) : Option R :=
  bi (vat == (b.length : Int))
   (K0 6 vat ([] : List Int))
   (bi (decide (0 ≤ vat ∧ vat < ((b.length : Nat) : Int)))
    (bi ((b.getD vat.toNat 0) == 10)
     (K0 0 (IntKind.i64.wrap (vat + 1)) o0)
     (bi (decide (0 ≤ vat ∧ vat < ((b.length : Nat) : Int)))
      (bi ((b.getD vat.toNat 0) != 32)
       (K0 6 vat ([] : List Int))
       (bi ((o0.length : Int) == 4096)
        (K0 2 vat ([] : List Int))
        (l_text_Number b (IntKind.i64.wrap (vat + 1))
         (fun r1 r2 r3 =>
          bi (r3 != 0)
           (K0 r3 r2 ([] : List Int))
           (bi (decide ((o0.length + [r1].length) * 8 ≤ lim))
            (g18_1 b r2 (o0 ++ [r1]))
            none)))))
      none))
    none)

/-- tutor/teach.numbers -/
def e_teach_numbers {R : Type} (g18_1 : (List Int) → Int → (List Int) → Option R) (K0 : Int → Int → (List Int) → Option R) (b : List Int) (vat : Int) : Option R :=
  g18_1 b vat ([] : List Int)

def run_teach_numbers {R : Type} (K0 : Int → Int → (List Int) → Option R) : Nat → (List Int) → Int → (List Int) → Option R
  | 0 => fun _ _ _ => none
  | n + 1 => s_teach_numbers_1 (run_teach_numbers K0 n) K0

def l_teach_numbers {R : Type} (b : List Int) (vat : Int) (K0 : Int → Int → List Int → Option R) : Option R :=
  bi (decide (short b ∧ 0 ≤ vat ∧ vat ≤ (b.length : Int))) (K0 (numsS (b.drop vat.toNat)).2.1 (vat + (numsS (b.drop vat.toNat)).2.2) (numsS (b.drop vat.toNat)).1) none

theorem numbers_run {R : Type} {b : List Int} (hs : short b) {a : Nat} (K0 : Int → Int → List Int → Option R) : ∀ (f p : Nat) (acc : List Int), a + p ≤ b.length → b.length - (a + p) < f → acc.length ≤ 4096 →
    Reach (fun m => run_teach_numbers K0 m b (((a + p : Nat)) : Int) acc) (K0 (numsR f (b.drop (a + p)) acc p).2.1 ((a : Int) + (numsR f (b.drop (a + p)) acc p).2.2) (numsR f (b.drop (a + p)) acc p).1) := by
  have hs' := hs
  unfold short at hs'
  intro f
  induction f with
  | zero =>
    intro p acc h1 h2
    omega
  | succ f ih =>
    intro p acc h1 h2 h3
    have open_ : ∀ m, run_teach_numbers K0 (m + 1) = s_teach_numbers_1 (run_teach_numbers K0 m) K0 := fun _ => rfl
    by_cases c0 : a + p = b.length
    · rw [List.drop_of_length_le (by omega)]
      refine .now fun m => ?_
      rw [open_]
      unfold s_teach_numbers_1
      rw [br_eq (by omega)]
      simp only [numsR]
      congr 1
    · have h4 : a + p < b.length := by omega
      have hd : b.drop (a + p) = b[a + p] :: b.drop (a + p + 1) := List.drop_eq_getElem_cons h4
      have hle := numL_le (b.drop (a + p + 1))
      rw [List.length_drop] at hle
      have e0 : numS b ((a + p : Nat) + 1 : Int) = ((numL (b.drop (a + p + 1))).1, ((a + p : Nat) : Int) + 1 + (numL (b.drop (a + p + 1))).2.1, (numL (b.drop (a + p + 1))).2.2) := by
        unfold numS
        rw [if_neg (by omega), show (((a + p : Nat) : Int) + 1).toNat = a + p + 1 from by omega]
      have key : ∀ m, run_teach_numbers K0 (m + 1) b (((a + p : Nat)) : Int) acc = if b[a + p] = 10 then K0 0 (((a + p : Nat) : Int) + 1) acc else if b[a + p] ≠ 32 then K0 6 (((a + p : Nat)) : Int) [] else if acc.length = 4096 then K0 2 (((a + p : Nat)) : Int) [] else
          if (numL (b.drop (a + p + 1))).2.2 ≠ 0 then K0 (numL (b.drop (a + p + 1))).2.2 (((a + p : Nat) : Int) + 1 + (numL (b.drop (a + p + 1))).2.1) [] else run_teach_numbers K0 m b (((a + p : Nat) : Int) + 1 + (numL (b.drop (a + p + 1))).2.1) (acc ++ [(numL (b.drop (a + p + 1))).1]) := by
        intro m
        rw [open_]
        unfold s_teach_numbers_1
        rw [br_eq' (by omega), br_pos (by omega), Int.toNat_natCast, getD_of 0 h4, wr (((a + p : Nat) : Int) + 1) (by omega) (by omega)]
        by_cases c1 : b[a + p] = 10
        · rw [br_eq c1, if_pos c1]
        · rw [br_eq' c1, if_neg c1, br_pos (by omega)]
          by_cases c2 : b[a + p] = 32
          · rw [br_ne' c2, if_neg (by simpa using c2)]
            by_cases c3 : acc.length = 4096
            · rw [br_eq (by omega), if_pos c3]
            · rw [br_eq' (by omega), if_neg c3, number_eq hs, e0]
              try dsimp only
              by_cases c4 : (numL (b.drop (a + p + 1))).2.2 = 0
              · rw [br_ne' c4, if_neg (by simpa using c4), br_pos (by unfold lim; simp; omega)]
              · rw [br_ne c4, if_pos c4]
          · rw [br_ne c2, if_pos c2]
      rw [hd]
      simp only [numsR]
      by_cases c1 : b[a + p] = 10
      · rw [if_pos c1]
        refine .now fun m => ?_
        rw [key, if_pos c1]
        first
          | rfl
          | (dsimp only; congr 1; omega)
          | (dsimp only; congr 1)
      · rw [if_neg c1]
        by_cases c2 : b[a + p] ≠ 32
        · rw [if_pos c2]
          refine .now fun m => ?_
          rw [key, if_neg c1, if_pos c2]
          first
            | rfl
            | (dsimp only; congr 1; omega)
            | (dsimp only; congr 1)
        · rw [if_neg c2]
          by_cases c3 : acc.length = 4096
          · rw [if_pos c3]
            refine .now fun m => ?_
            rw [key, if_neg c1, if_neg c2, if_pos c3]
            first
              | rfl
              | (dsimp only; congr 1; omega)
              | (dsimp only; congr 1)
          · rw [if_neg c3]
            by_cases c4 : (numL (b.drop (a + p + 1))).2.2 ≠ 0
            · rw [if_pos c4]
              refine .now fun m => ?_
              rw [key, if_neg c1, if_neg c2, if_neg c3, if_pos c4]
              first
                | rfl
                | (dsimp only; congr 1; omega)
                | (dsimp only; congr 1)
            · rw [if_neg c4]
              refine .step (fun m => by rw [key, if_neg c1, if_neg c2, if_neg c3, if_neg c4]) ?_
              have := ih (p + 1 + (numL (b.drop (a + p + 1))).2.1) (acc ++ [(numL (b.drop (a + p + 1))).1]) (by omega) (by omega) (by simp; omega)
              rw [List.drop_drop, show a + p + 1 + (numL (b.drop (a + p + 1))).2.1 = a + (p + 1 + (numL (b.drop (a + p + 1))).2.1) from by omega]
              rw [show ((a + (p + 1 + (numL (b.drop (a + p + 1))).2.1) : Nat) : Int) = ((a + p : Nat) : Int) + 1 + (numL (b.drop (a + p + 1))).2.1 from by omega] at this
              exact this

theorem ok_teach_numbers {R : Type} (b : List Int) (vat : Int) (K0 : Int → Int → List Int → Option R) {r : R} (h : l_teach_numbers b vat K0 = some r) : ∃ fuel, e_teach_numbers (run_teach_numbers K0 fuel) K0 b vat = some r := by
  unfold l_teach_numbers at h
  rcases bi_some h with ⟨hd, h⟩ | ⟨_, h⟩
  · obtain ⟨hs, h0, h1⟩ := of_decide_eq_true hd
    obtain ⟨a, rfl⟩ : ∃ a : Nat, vat = a := ⟨vat.toNat, by omega⟩
    rw [← h, Int.toNat_natCast]
    have := (numbers_run hs (a := a) K0 ((b.drop a).length + 1) 0 [] (by omega) (by rw [List.length_drop]; omega) (by simp)).get
    obtain ⟨n, hn⟩ := this
    exact ⟨n, hn⟩
  · cases h

theorem numbers_eq {R : Type} {b : List Int} (hs : short b) {a : Nat} (ha : a ≤ b.length) (K0 : Int → Int → List Int → Option R) :
    l_teach_numbers b (a : Int) K0 = K0 (numsS (b.drop a)).2.1 ((a : Int) + (numsS (b.drop a)).2.2) (numsS (b.drop a)).1 := by
  unfold l_teach_numbers
  rw [br_pos ⟨hs, by omega, by omega⟩, Int.toNat_natCast]

/-- tutor/teach.Parse -/
def s_teach_Parse_3 {R : Type} (g10_3 : (List Int) → Int → (List (Int × (List Int × List Int))) → Option R) (K0 : Int → Int → (List (Int × (List Int × List Int))) → Option R) (b : List Int) (vat : Int) (o0 : List (Int × (List Int × List Int))) : Option R :=
  bi (decide (vat < (b.length : Int)))
   (bi ((o0.length : Int) == 65536)
    (K0 3 vat ([] : List (Int × (List Int × List Int))))
    (bi (decide (0 ≤ vat ∧ vat < ((b.length : Nat) : Int)))
     (bi ((b.getD vat.toNat 0) == 111)
      (l_teach_numbers b (IntKind.i64.wrap (vat + 1))
       (fun r1 r2 r3 =>
        bi (r1 != 0)
         (K0 r1 r2 ([] : List (Int × (List Int × List Int))))
         (bi (decide ((o0.length + [(1, (r3, ([] : List Int)))].length) * 56 ≤ lim))
          (g10_3 b r2 (o0 ++ [(1, (r3, ([] : List Int)))]))
          none)))
      (bi ((b.getD vat.toNat 0) == 121)
       (bi (decide ((IntKind.i64.wrap (vat + 1)) < (b.length : Int)))
        (bi (decide (0 ≤ (IntKind.i64.wrap (vat + 1)) ∧ (IntKind.i64.wrap (vat + 1)) < ((b.length : Nat) : Int)))
         (bi ((b.getD ((IntKind.i64.wrap (vat + 1)).toNat) 0) != 10)
          (K0 6 (IntKind.i64.wrap (vat + 1)) ([] : List (Int × (List Int × List Int))))
          (l_teach_numbers b (IntKind.i64.wrap (vat + 1))
           (fun r4 r5 r6 =>
            bi (r4 != 0)
             (K0 r4 r5 ([] : List (Int × (List Int × List Int))))
             (bi (decide ((o0.length + [(2, (([] : List Int), r6))].length) * 56 ≤ lim))
              (g10_3 b r5 (o0 ++ [(2, (([] : List Int), r6))]))
              none))))
         none)
        (l_teach_numbers b (IntKind.i64.wrap (vat + 1))
         (fun r7 r8 r9 =>
          bi (r7 != 0)
           (K0 r7 r8 ([] : List (Int × (List Int × List Int))))
           (bi (decide ((o0.length + [(2, (([] : List Int), r9))].length) * 56 ≤ lim))
            (g10_3 b r8 (o0 ++ [(2, (([] : List Int), r9))]))
            none))))
       (bi ((b.getD vat.toNat 0) == 110)
        (l_teach_numbers b (IntKind.i64.wrap (vat + 1))
         (fun r10 r11 r12 =>
          bi (r10 != 0)
           (K0 r10 r11 ([] : List (Int × (List Int × List Int))))
           (bi (decide ((o0.length + [(3, (([] : List Int), r12))].length) * 56 ≤ lim))
            (g10_3 b r11 (o0 ++ [(3, (([] : List Int), r12))]))
            none)))
        (K0 6 vat ([] : List (Int × (List Int × List Int)))))))
     none))
   (K0 0 (b.length : Int) o0)

/-- tutor/teach.Parse -/
def e_teach_Parse {R : Type} (g10_3 : (List Int) → Int → (List (Int × (List Int × List Int))) → Option R) (K0 : Int → Int → (List (Int × (List Int × List Int))) → Option R) (b : List Int) : Option R :=
  bi (decide ((b.length : Int) > 16777216))
   (K0 2 0 ([] : List (Int × (List Int × List Int))))
   (g10_3 b 0 ([] : List (Int × (List Int × List Int))))

def run_teach_Parse {R : Type} (K0 : Int → Int → (List (Int × (List Int × List Int))) → Option R) : Nat → (List Int) → Int → (List (Int × (List Int × List Int))) → Option R
  | 0 => fun _ _ _ => none
  | n + 1 => s_teach_Parse_3 (run_teach_Parse K0 n) K0

def l_teach_Parse {R : Type} (b : List Int) (K0 : Int → Int → (List (Int × (List Int × List Int))) → Option R) : Option R := bi (decide (short b)) (K0 (parseS b).2.1 (parseS b).2.2 (parseS b).1) none

theorem parse_run {R : Type} {b : List Int} (hs : short b) (K0 : Int → Int → (List (Int × (List Int × List Int))) → Option R) : ∀ (f p : Nat) (acc : List (Int × (List Int × List Int))), p ≤ b.length → b.length - p < f → acc.length ≤ 65536 →
    Reach (fun m => run_teach_Parse K0 m b (p : Int) acc) (K0 (parseR f (b.drop p) acc p).2.1 ((parseR f (b.drop p) acc p).2.2 : Int) (parseR f (b.drop p) acc p).1) := by
  have hs' := hs
  unfold short at hs'
  intro f
  induction f with
  | zero =>
    intro p acc h1 h2
    omega
  | succ f ih =>
    intro p acc h1 h2 h3
    have open_ : ∀ m, run_teach_Parse K0 (m + 1) = s_teach_Parse_3 (run_teach_Parse K0 m) K0 := fun _ => rfl
    by_cases c0 : p = b.length
    · rw [List.drop_of_length_le (by omega)]
      refine .now fun m => ?_
      rw [open_]
      unfold s_teach_Parse_3
      rw [br_neg (by omega), ← c0]
      simp only [parseR]
    · have h4 : p < b.length := by omega
      have hd : b.drop p = b[p] :: b.drop (p + 1) := List.drop_eq_getElem_cons h4
      have hle := lineR_le b[p] (b.drop (p + 1))
      rw [List.length_drop] at hle
      have hlim : ∀ {α : Type} (x : α), (acc.length + [x].length) * 56 ≤ lim := by
        intro α x
        unfold lim
        simp
        omega
      have key : ∀ m, run_teach_Parse K0 (m + 1) b (p : Int) acc = if acc.length = 65536 then K0 3 (p : Int) [] else if b[p] = 111 ∨ b[p] = 121 ∨ b[p] = 110 then
          (if (lineR b[p] (b.drop (p + 1))).2.1 ≠ 0 then K0 (lineR b[p] (b.drop (p + 1))).2.1 ((p + 1 + (lineR b[p] (b.drop (p + 1))).2.2 : Nat) : Int) []
            else run_teach_Parse K0 m b ((p + 1 + (lineR b[p] (b.drop (p + 1))).2.2 : Nat) : Int) (acc ++ [(lineR b[p] (b.drop (p + 1))).1])) else K0 6 (p : Int) [] := by
        intro m
        rw [open_]
        unfold s_teach_Parse_3
        rw [br_pos (by omega)]
        by_cases c1 : acc.length = 65536
        · rw [br_eq (by omega), if_pos c1]
        · have e1 : ((p : Int) + 1) = ((p + 1 : Nat) : Int) := by omega
          rw [br_eq' (by omega), if_neg c1, br_pos (by omega), Int.toNat_natCast, getD_of 0 h4, wr ((p : Int) + 1) (by omega) (by omega), e1]
          by_cases c2 : b[p] = 111
          · rw [br_eq c2, if_pos (.inl c2), numbers_eq hs (by omega)]
            unfold lineR
            rw [if_pos c2]
            try dsimp only
            by_cases c3 : (numsS (b.drop (p + 1))).2.1 = 0
            · rw [br_ne' c3, if_neg (by omega), br_pos (hlim _)]
              congr 1
            · rw [br_ne c3, if_pos c3]
              congr 1
          · rw [br_eq' c2]
            by_cases c4 : b[p] = 121
            · rw [br_eq c4, if_pos (.inr (.inl c4))]
              unfold lineR
              rw [if_neg c2, if_pos c4]
              by_cases c5 : p + 1 < b.length
              · have hd2 : b.drop (p + 1) = b[p + 1] :: b.drop (p + 1 + 1) := List.drop_eq_getElem_cons c5
                rw [br_pos (by omega), br_pos (by omega), Int.toNat_natCast, getD_of 0 c5, hd2, List.head?_cons]
                by_cases c6 : b[p + 1] = 10
                · rw [br_ne' c6, c6, if_pos rfl, numbers_eq hs (by omega), hd2, c6]
                  have e2 : numsS (10 :: b.drop (p + 1 + 1)) = ([], 0, 1) := rfl
                  rw [e2]
                  try dsimp only
                  rw [br_ne' rfl, if_neg (by decide), br_pos (hlim _)]
                  congr 1
                · have e3 : ¬ some b[p + 1] = some (10 : Int) := fun h => c6 (Option.some.inj h)
                  simp only [if_neg e3]
                  rw [br_ne c6, if_pos (by decide)]
                  try congr 1
              · rw [br_neg (by omega), numbers_eq hs (by omega), List.drop_of_length_le (by omega)]
                have e2 : numsS ([] : List Int) = ([], 6, 0) := rfl
                rw [e2]
                try dsimp only
                have e3 : ¬ ([] : List Int).head? = some (10 : Int) := by simp
                simp only [if_neg e3]
                rw [br_ne (by decide), if_pos (by decide)]
                try congr 1
            · rw [br_eq' c4]
              by_cases c5 : b[p] = 110
              · rw [br_eq c5, if_pos (.inr (.inr c5)), numbers_eq hs (by omega)]
                unfold lineR
                rw [if_neg c2, if_neg c4]
                try dsimp only
                by_cases c3 : (numsS (b.drop (p + 1))).2.1 = 0
                · rw [br_ne' c3, if_neg (by omega), br_pos (hlim _)]
                  congr 1
                · rw [br_ne c3, if_pos c3]
                  congr 1
              · rw [br_eq' c5, if_neg (by omega)]
      rw [hd]
      simp only [parseR]
      by_cases c1 : acc.length = 65536
      · rw [if_pos c1]
        refine .now fun m => ?_
        rw [key, if_pos c1]
      · rw [if_neg c1]
        by_cases c2 : b[p] = 111 ∨ b[p] = 121 ∨ b[p] = 110
        · rw [if_pos c2]
          by_cases c3 : (lineR b[p] (b.drop (p + 1))).2.1 ≠ 0
          · rw [if_pos c3]
            refine .now fun m => ?_
            rw [key, if_neg c1, if_pos c2, if_pos c3]
          · rw [if_neg c3]
            refine .step (fun m => by rw [key, if_neg c1, if_pos c2, if_neg c3]) ?_
            have := ih (p + 1 + (lineR b[p] (b.drop (p + 1))).2.2) (acc ++ [(lineR b[p] (b.drop (p + 1))).1]) (by omega) (by omega) (by simp; omega)
            rw [List.drop_drop]
            exact this
        · rw [if_neg c2]
          refine .now fun m => ?_
          rw [key, if_neg c1, if_neg c2]

theorem ok_teach_Parse {R : Type} (b : List Int) (K0 : Int → Int → (List (Int × (List Int × List Int))) → Option R) {r : R} (h : l_teach_Parse b K0 = some r) : ∃ fuel, e_teach_Parse (run_teach_Parse K0 fuel) K0 b = some r := by
  unfold l_teach_Parse at h
  rcases bi_some h with ⟨hd, h⟩ | ⟨_, h⟩
  · have hs : short b := of_decide_eq_true hd
    rw [← h]
    unfold parseS
    by_cases c : b.length > 16777216
    · rw [if_pos c]
      exact ⟨0, by unfold e_teach_Parse; rw [br_pos (by omega)]; rfl⟩
    · rw [if_neg c]
      obtain ⟨n, hn⟩ := (parse_run hs K0 (b.length + 1) 0 [] (by omega) (by omega) (by simp)).get
      refine ⟨n, ?_⟩
      unfold e_teach_Parse
      rw [br_neg (by omega)]
      exact hn
  · cases h

theorem parse_eq {R : Type} {b : List Int} (hs : short b) (K0 : Int → Int → (List (Int × (List Int × List Int))) → Option R) : l_teach_Parse b K0 = K0 (parseS b).2.1 (parseS b).2.2 (parseS b).1 := br_pos hs

/-- tutor/tutorlaw10.num -/
def l_tutorlaw10_num {R : Type} (e : Int) (K0 : Int → Option R) : Option R :=
  K0 e

/-- tutor/tutorref01.Same -/
def s_tutorref01_Same_4 {R : Type} (g13_4 : (List Int) → (List Int) → Int → Option R) (K0 : Bool → Option R) (a : List Int) (b : List Int) (i : Int) : Option R :=
  bi (decide (i < (a.length : Int)))
   (bi (decide (0 ≤ i ∧ i < ((a.length : Nat) : Int)))
    (bi (decide (0 ≤ i ∧ i < ((b.length : Nat) : Int)))
     (bi ((a.getD i.toNat 0) != (b.getD i.toNat 0))
      (K0 false)
      (g13_4 a b (IntKind.i64.wrap (i + 1))))
     none)
    none)
   (K0 true)

/-- tutor/tutorref01.Same -/
def e_tutorref01_Same {R : Type} (g13_4 : (List Int) → (List Int) → Int → Option R) (K0 : Bool → Option R) (a : List Int) (b : List Int) : Option R :=
  bi ((a.length : Int) != (b.length : Int))
   (K0 false)
   (g13_4 a b 0)

def run_tutorref01_Same {R : Type} (K0 : Bool → Option R) : Nat → (List Int) → (List Int) → Int → Option R
  | 0 => fun _ _ _ => none
  | n + 1 => s_tutorref01_Same_4 (run_tutorref01_Same K0 n) K0

def l_tutorref01_Same {R : Type} (a : List Int) (b : List Int) (K0 : Bool → Option R) : Option R := bi (decide (short a)) (K0 (decide (a = b))) none

theorem findP_zip {a b : List Int} (hl : a.length = b.length) : findP (fun i => a.getD i 0 != b.getD i 0) (List.range a.length) = none ↔ a = b := by
  rw [findP_none]
  constructor
  · intro h
    refine List.ext_getElem hl fun i h1 h2 => ?_
    have := h i (by simpa using h1)
    rw [getD_of 0 h1, getD_of 0 h2] at this
    simpa using this
  · rintro rfl i _
    simp

theorem ok_tutorref01_Same {R : Type} (a : List Int) (b : List Int) (K0 : Bool → Option R) {r : R} (h : l_tutorref01_Same a b K0 = some r) : ∃ fuel, e_tutorref01_Same (run_tutorref01_Same K0 fuel) K0 a b = some r := by
  unfold l_tutorref01_Same at h
  rcases bi_some h with ⟨hs, h⟩ | ⟨_, h⟩
  · have hs : a.length < 4611686018427387904 := of_decide_eq_true hs
    refine ⟨a.length + 1, ?_⟩
    rw [← h]
    unfold e_tutorref01_Same
    by_cases hl : a.length = b.length
    · rw [br_ne' (by omega)]
      have key := scan_all (F := fun m i => run_tutorref01_Same K0 m a b (i : Int)) (fun i => a.getD i 0 != b.getD i 0) (l := List.range a.length) (A := fun i => K0 false) (B := K0 true)
        (fun m => by
          show s_tutorref01_Same_4 _ _ _ _ _ = _
          unfold s_tutorref01_Same_4
          rw [List.length_range, br_neg (by omega)])
        (fun m i hi => by
          rw [List.length_range] at hi
          show s_tutorref01_Same_4 _ _ _ _ _ = _
          unfold s_tutorref01_Same_4
          rw [br_pos (by omega), br_pos (by omega), br_pos (by omega), br_if, Int.toNat_natCast, wr _ (by omega) (by omega), List.getElem_range]
          rfl)
      rw [List.length_range] at key
      refine key.trans ?_
      by_cases e : a = b
      · rw [(findP_zip hl).2 e]
        simp [e]
      · have : findP (fun i => a.getD i 0 != b.getD i 0) (List.range a.length) ≠ none := fun h => e ((findP_zip hl).1 h)
        cases hf : findP (fun i => a.getD i 0 != b.getD i 0) (List.range a.length) with
        | none => exact absurd hf this
        | some j => simp [e]
    · rw [br_ne (by omega)]
      have e : a ≠ b := fun e => hl (by rw [e])
      simp [e]
  · cases h

theorem same_eq {R : Type} {a b : List Int} (h : short a) (K0 : Bool → Option R) : l_tutorref01_Same a b K0 = K0 (decide (a = b)) := by
  unfold l_tutorref01_Same
  rw [br_pos h]

/-- tutor/teach.of -/
def l_teach_of {R : Type} (a : Int) (a_1 : List Int) (a_2 : List Int) (K0 : (List Int) → Option R) (K1 : Option R) (K2 : (List Int) → Option R) (K3 : Option R) : Option R :=
  bi (a == 1)
   (K0 a_1)
   (bi (a == 2)
    K1
    (bi (a == 3)
     (K2 a_2)
     K3))

/-- tutor/teach.member$1 -/
def l_teach_member_1 {R : Type} (o : Int) (o0 : Int) (K0 : Bool → Int → Option R) : Option R :=
  bi (decide (o < 0))
   (K0 true o0)
   (K0 (decide (o ≥ o0)) o0)

/-- slices.IndexFunc[[]int,int] -/
def s_slices_IndexFunc_int_int_fteach_member_1_2 {R : Type} (g27_2 : (List Int) → Int → Int → Int → Option R) (K0 : Int → Int → Option R) (s : List Int) (x7 : Int) (x8 : Int) (o0 : Int) : Option R :=
  bi (decide (x8 < x7))
   (bi (decide (0 ≤ x8 ∧ x8 < ((s.length : Nat) : Int)))
    (l_teach_member_1 (s.getD x8.toNat 0) o0
     (fun r1 r2 =>
      bi r1
       (K0 x8 r2)
       (g27_2 s x7 (IntKind.i64.wrap (x8 + 1)) r2)))
    none)
   (K0 (-1) o0)

/-- slices.IndexFunc[[]int,int] -/
def e_slices_IndexFunc_int_int_fteach_member_1 {R : Type} (g27_2 : (List Int) → Int → Int → Int → Option R) (K0 : Int → Int → Option R) (s : List Int) (o0 : Int) : Option R :=
  g27_2 s (s.length : Int) 0 o0

def run_slices_IndexFunc_int_int_fteach_member_1 {R : Type} (K0 : Int → Int → Option R) : Nat → (List Int) → Int → Int → Int → Option R
  | 0 => fun _ _ _ _ => none
  | n + 1 => s_slices_IndexFunc_int_int_fteach_member_1_2 (run_slices_IndexFunc_int_int_fteach_member_1 K0 n) K0

def l_slices_IndexFunc_int_int_fteach_member_1 {R : Type} (s : List Int) (o0 : Int) (K0 : Int → Int → Option R) : Option R :=
  bi (decide (short s)) (match findP (outside o0) s with | some i => K0 (i : Int) o0 | none => K0 (-1) o0) none

theorem ok_slices_IndexFunc_int_int_fteach_member_1 {R : Type} (s : List Int) (o0 : Int) (K0 : Int → Int → Option R) {r : R} (h : l_slices_IndexFunc_int_int_fteach_member_1 s o0 K0 = some r) : ∃ fuel, e_slices_IndexFunc_int_int_fteach_member_1 (run_slices_IndexFunc_int_int_fteach_member_1 K0 fuel) K0 s o0 = some r := by
  unfold l_slices_IndexFunc_int_int_fteach_member_1 at h
  rcases bi_some h with ⟨hs, h⟩ | ⟨_, h⟩
  · have hs : s.length < 4611686018427387904 := of_decide_eq_true hs
    refine ⟨s.length + 1, ?_⟩
    rw [← h]
    unfold e_slices_IndexFunc_int_int_fteach_member_1
    exact scan_all (F := fun m i => run_slices_IndexFunc_int_int_fteach_member_1 K0 m s (s.length : Int) (i : Int) o0) (outside o0) (l := s) (A := fun i => K0 (i : Int) o0) (B := K0 (-1) o0)
      (fun m => by
        dsimp only [run_slices_IndexFunc_int_int_fteach_member_1]
        unfold s_slices_IndexFunc_int_int_fteach_member_1_2
        rw [br_neg (by omega)])
      (fun m i hi => by
        dsimp only [run_slices_IndexFunc_int_int_fteach_member_1]
        unfold s_slices_IndexFunc_int_int_fteach_member_1_2 l_teach_member_1
        rw [br_pos (by omega), br_pos (by omega), Int.toNat_natCast, getD_of 0 hi, wr _ (by omega) (by omega)]
        unfold outside
        cases decide (s[i] < 0) <;> cases decide (s[i] ≥ o0) <;> rfl)
  · cases h


/-- slices.ContainsFunc[[]int,int] -/
def l_slices_ContainsFunc_int_int_fteach_member_1 {R : Type} (s : List Int) (o0 : Int) (K0 : Bool → Int → Option R) : Option R :=
  l_slices_IndexFunc_int_int_fteach_member_1 s o0
   (fun r1 r2 =>
    K0 (decide (r1 ≥ 0)) r2)

theorem contains_eq {R : Type} {s : List Int} (h : short s) (o0 : Int) (K0 : Bool → Int → Option R) : l_slices_ContainsFunc_int_int_fteach_member_1 s o0 K0 = K0 (!decide (findP (outside o0) s = none)) o0 := by
  unfold l_slices_ContainsFunc_int_int_fteach_member_1 l_slices_IndexFunc_int_int_fteach_member_1
  rw [br_pos h]
  cases hf : findP (outside o0) s with
  | none => rfl
  | some i =>
    have e1 : decide ((i : Int) ≥ 0) = true := decide_eq_true (by omega)
    simp only [e1]
    rfl

/-- tutor/teach.member -/
def l_teach_member {R : Type} (q : Int) (q_1 : List Int) (q_2 : Int) (q_3 : Int) (q_4 : Int) (q_5 : Int) (q_6 : List Int) (q_7 : List Int) (out : List Int) (K0 : Bool → Option R) : Option R :=
  bi (q_2 == 1)
   (bi ((out.length : Int) == 1)
    (l_slices_ContainsFunc_int_int_fteach_member_1 out 2
     (fun r1 r2 =>
      K0 (!r1)))
    (K0 false))
   (bi (q_2 == 2)
    (bi ((out.length : Int) == (q_1.length : Int))
     (l_slices_ContainsFunc_int_int_fteach_member_1 out q_4
      (fun r3 r4 =>
       K0 (!r3)))
     (K0 false))
    (K0 false))

/-- tutor/word.alphabet -/
def l_word_alphabet {R : Type} (k : Int) (K0 : Bool → Option R) : Option R :=
  bi (decide (k ≥ 1))
   (K0 (decide (k ≤ 64)))
   (K0 false)

theorem alpha_eq {R : Type} (k : Int) (K0 : Bool → Option R) : l_word_alphabet k K0 = K0 (decide (1 ≤ k ∧ k ≤ 64)) := by
  unfold l_word_alphabet
  by_cases h : k ≥ 1
  · rw [br_pos h]
    congr 1
    rw [decide_eq_decide]
    omega
  · rw [br_neg h, decide_eq_false (by omega)]

/-- tutor/word.Check -/
def s_word_Check_6 {R : Type} (g20_6 : (List Int) → Int → Int → Int → Option R) (K0 : Int → Int → Option R) (w : List Int) (k : Int) (x16 : Int) (x17 : Int) : Option R :=
  bi (decide (x17 < x16))
   (bi (decide (0 ≤ x17 ∧ x17 < ((w.length : Nat) : Int)))
    (bi (decide ((w.getD x17.toNat 0) < 0))
     (K0 x17 10)
     (bi (decide (0 ≤ x17 ∧ x17 < ((w.length : Nat) : Int)))
      (bi (decide ((w.getD x17.toNat 0) ≥ k))
       (K0 x17 10)
       (g20_6 w k x16 (IntKind.i64.wrap (x17 + 1))))
      none))
    none)
   (K0 0 0)

/-- tutor/word.Check -/
def e_word_Check {R : Type} (g20_6 : (List Int) → Int → Int → Int → Option R) (K0 : Int → Int → Option R) (w : List Int) (k : Int) : Option R :=
  l_word_alphabet k
   (fun r1 =>
    bi (!r1)
     (K0 0 1)
     (bi (decide ((w.length : Int) > 4096))
      (K0 0 2)
      (g20_6 w k (w.length : Int) 0)))

def run_word_Check {R : Type} (K0 : Int → Int → Option R) : Nat → (List Int) → Int → Int → Int → Option R
  | 0 => fun _ _ _ _ => none
  | n + 1 => s_word_Check_6 (run_word_Check K0 n) K0

def l_word_Check {R : Type} (w : List Int) (k : Int) (K0 : Int → Int → Option R) : Option R := K0 (wordS k w).1 (wordS k w).2

theorem ok_word_Check {R : Type} (w : List Int) (k : Int) (K0 : Int → Int → Option R) {r : R} (h : l_word_Check w k K0 = some r) : ∃ fuel, e_word_Check (run_word_Check K0 fuel) K0 w k = some r := by
  refine ⟨w.length + 1, ?_⟩
  rw [← h]
  unfold l_word_Check e_word_Check l_word_alphabet wordS
  by_cases h1 : 1 ≤ k
  · rw [br_pos (by omega)]
    by_cases h2 : k ≤ 64
    · rw [decide_eq_true h2, if_neg (by omega)]
      show bi false _ _ = _
      rw [br_ff]
      by_cases h3 : w.length > 4096
      · rw [br_pos (by omega), if_pos h3]
      · rw [br_neg (by omega), if_neg h3]
        have key := scan_all (F := fun m i => run_word_Check K0 m w k (w.length : Int) (i : Int)) (outside k) (l := w) (A := fun i => K0 i 10) (B := K0 0 0)
          (fun m => by
            show s_word_Check_6 _ _ _ _ _ _ = _
            unfold s_word_Check_6
            rw [br_neg (by omega)])
          (fun m i hi => by
            show s_word_Check_6 _ _ _ _ _ _ = _
            unfold s_word_Check_6
            rw [br_pos (by omega), br_pos (by omega), br_pos (p := 0 ≤ (i : Int) ∧ (i : Int) < ((w.length : Nat) : Int)) (by omega), Int.toNat_natCast, getD_of 0 hi, wr _ (by omega) (by omega)]
            unfold outside
            cases decide (w[i] < 0) <;> cases decide (w[i] ≥ k) <;> rfl)
        refine key.trans ?_
        cases findP (outside k) w <;> rfl
    · rw [decide_eq_false h2, if_pos (by omega)]
      rfl
  · rw [br_neg (by omega), if_pos (by omega)]
    rfl

/-- tutor/teach.Check -/
def l_teach_Check {R : Type} (q : Int) (q_1 : List Int) (q_2 : Int) (q_3 : Int) (q_4 : Int) (q_5 : Int) (q_6 : List Int) (q_7 : List Int) (a : Int) (a_1 : List Int) (a_2 : List Int) (K0 : Int → Option R) : Option R :=
  bi (q != 1)
   (bi (q != 2)
    (K0 30)
    (l_teach_of a a_1 a_2
     (fun r1 =>
      bi (q == 1)
       (bi ((a_2.length : Int) == 0)
        (l_teach_member q q_1 q_2 q_3 q_4 q_5 q_6 q_7 r1
         (fun r2 =>
          bi (!r2)
           (K0 100)
           (K0 0)))
        (K0 100))
       (K0 100))
     (bi (q == 2)
      (bi (!((IntKind.i64.wrap ((a_2.length : Int) + (a_1.length : Int))) == 0))
       (K0 100)
       (K0 0))
      (K0 100))
     (fun r3 =>
      l_word_Check r3 q_3
       (fun r4 r5 =>
        bi (q == 2)
         (bi ((a_1.length : Int) == 0)
          (bi (!(r5 == 0))
           (K0 100)
           (K0 0))
          (K0 100))
         (K0 100)))
     (K0 100)))
   (l_teach_of a a_1 a_2
    (fun r6 =>
     bi (q == 1)
      (bi ((a_2.length : Int) == 0)
       (l_teach_member q q_1 q_2 q_3 q_4 q_5 q_6 q_7 r6
        (fun r7 =>
         bi (!r7)
          (K0 100)
          (K0 0)))
       (K0 100))
      (K0 100))
    (bi (q == 2)
     (bi (!((IntKind.i64.wrap ((a_2.length : Int) + (a_1.length : Int))) == 0))
      (K0 100)
      (K0 0))
     (K0 100))
    (fun r8 =>
     l_word_Check r8 q_3
      (fun r9 r10 =>
       bi (q == 2)
        (bi ((a_1.length : Int) == 0)
         (bi (!(r10 == 0))
          (K0 100)
          (K0 0))
         (K0 100))
        (K0 100)))
    (K0 100))

def allIn (n : Int) (l : List Int) : Prop := findP (outside n) l = none
instance (n : Int) (l : List Int) : Decidable (allIn n l) := by unfold allIn; infer_instance

/-- May this be answered? -/
def teachC (q : Int) (q1 : List Int) (q2 q3 q4 : Int) (a : Int) (a1 a2 : List Int) : Int :=
  if q ≠ 1 ∧ q ≠ 2 then 30
  else if q = 2 then (if a1.length = 0 ∧ ((a = 2 ∧ a2.length = 0) ∨ (a = 3 ∧ (wordS q3 a2).2 = 0)) then 0 else 100)
  else if a = 1 ∧ a2.length = 0 ∧ ((q2 = 1 ∧ a1.length = 1 ∧ allIn 2 a1) ∨ (q2 = 2 ∧ a1.length = q1.length ∧ allIn q4 a1)) then 0 else 100

theorem tcheck_eq {R : Type} {q : Int} {q_1 : List Int} {q_2 q_3 q_4 q_5 : Int} {q_6 q_7 : List Int} {a : Int} {a_1 a_2 : List Int} (h : a_1.length ≤ 17592186044000) (h2 : a_2.length ≤ 17592186044000) (K0 : Int → Option R) :
    l_teach_Check q q_1 q_2 q_3 q_4 q_5 q_6 q_7 a a_1 a_2 K0 = K0 (teachC q q_1 q_2 q_3 q_4 a a_1 a_2) := by
  unfold l_teach_Check l_teach_of l_teach_member l_word_Check teachC
  have hs : short a_1 := by unfold short; omega
  simp only [contains_eq hs]
  rw [wr _ (by omega) (by omega)]
  simp only [br_if, bne_iff_ne, beq_iff_eq, decide_eq_true_eq, ne_eq, Bool.not_not]
  generalize (wordS q_3 a_2).2 = c
  have e0 : ((a_2.length : Int) + (a_1.length : Int) = 0) = (a_2.length = 0 ∧ a_1.length = 0) := propext (by omega)
  have e1 : ((a_1.length : Int) = 0) = (a_1.length = 0) := propext (by omega)
  have e2 : ((a_2.length : Int) = 0) = (a_2.length = 0) := propext (by omega)
  have e4 : ((a_1.length : Int) = 1) = (a_1.length = 1) := propext (by omega)
  have e5 : ((a_1.length : Int) = (q_1.length : Int)) = (a_1.length = q_1.length) := propext (by omega)
  unfold allIn
  simp only [Bool.not_eq_true', beq_eq_false_iff_ne, ne_eq, e0, e1, e2, e4, e5]
  by_cases h1 : q = 1
  · subst h1
    by_cases h2 : a = 1 <;> by_cases h22 : a = 2 <;> by_cases h3 : a_2.length = 0 <;> by_cases h4 : q_2 = 1 <;> by_cases h5 : q_2 = 2 <;> by_cases h6 : a_1.length = 1 <;> by_cases h7 : a_1.length = q_1.length <;> simp_all <;> (try (split <;> rfl))
  · by_cases h2 : q = 2
    · subst h2
      by_cases h2 : a_1.length = 0 <;> by_cases h3 : a_2.length = 0 <;> by_cases h4 : a = 1 <;> by_cases h5 : a = 2 <;> by_cases h52 : a = 3 <;> by_cases h6 : c = 0 <;> simp_all
    · simp_all

/-- tutor/tutorlaw10.live -/
def l_tutorlaw10_live {R : Type}  (K0 : Bool → Option R) : Option R :=
  bi (decide (0 < [111, 32, 48, 32, 49, 10, 121, 10, 110, 32, 50, 10].length))
   (l_teach_Parse [111, 32, 48, 32, 49, 10, 121, 10, 110, 32, 50, 10]
    (fun r1 r2 r3 =>
     bi (decide (0 < [111, 32, 48, 49, 10].length))
      (l_teach_Parse [111, 32, 48, 49, 10]
       (fun r4 r5 r6 =>
        l_tutorlaw10_num r1
         (fun r7 =>
          bi (r7 == 0)
           (bi (r2 == 12)
            (bi ((r3.length : Int) == 3)
             (bi (decide (0 ≤ (0 : Int) ∧ (0 : Int) < ((r3.length : Nat) : Int)))
              (l_tutorref01_Same (((r3.getD 0 (0, ([], []))).2).1) [0, 1]
               (fun r8 =>
                bi r8
                 (bi (decide (0 ≤ (1 : Int) ∧ (1 : Int) < ((r3.length : Nat) : Int)))
                  (bi (((r3.getD 1 (0, ([], []))).1) == 2)
                   (bi (decide (0 ≤ (2 : Int) ∧ (2 : Int) < ((r3.length : Nat) : Int)))
                    (l_tutorref01_Same (((r3.getD 2 (0, ([], []))).2).2) [2]
                     (fun r9 =>
                      bi r9
                       (l_tutorlaw10_num r4
                        (fun r10 =>
                         bi (r10 == 6)
                          (bi (r5 == 3)
                           (l_teach_Check 1 ([] : List Int) 1 0 2 0 ([] : List Int) ([] : List Int) 1 [2] ([] : List Int)
                            (fun r11 =>
                             l_tutorlaw10_num r11
                              (fun r12 =>
                               K0 (r12 == 100))))
                           (K0 false))
                          (K0 false)))
                       (K0 false)))
                    none)
                   (K0 false))
                  none)
                 (K0 false)))
              none)
             (K0 false))
            (K0 false))
           (K0 false))))
      none))
   none

theorem live10 {R : Type} (K0 : Bool → Option R) : l_tutorlaw10_live K0 = K0 true := by kernel_rfl

/-- tutor/tutorref10.Huge -/
def s_tutorref10_Huge_5 {R : Type} (g5_5 : (List (Int × (List Int × List Int))) → Int → Int → Int → Option R) (K0 : Bool → Option R) (l : List (Int × (List Int × List Int))) (most : Int) (n : Int) (i : Int) : Option R :=
  bi (decide (i < (l.length : Int)))
   (bi (decide (0 ≤ i ∧ i < ((l.length : Nat) : Int)))
    (bi (decide (((((l.getD i.toNat (0, ([], []))).2).1).length : Int) > (IntKind.i64.wrap (most - n))))
     (K0 true)
     (bi (decide (0 ≤ i ∧ i < ((l.length : Nat) : Int)))
      (bi (decide (0 ≤ i ∧ i < ((l.length : Nat) : Int)))
       (bi (decide (((((l.getD i.toNat (0, ([], []))).2).2).length : Int) > (IntKind.i64.wrap (most - (IntKind.i64.wrap (n + ((((l.getD i.toNat (0, ([], []))).2).1).length : Int)))))))
        (K0 true)
        (bi (decide (0 ≤ i ∧ i < ((l.length : Nat) : Int)))
         (g5_5 l most (IntKind.i64.wrap ((IntKind.i64.wrap (n + ((((l.getD i.toNat (0, ([], []))).2).1).length : Int))) + ((((l.getD i.toNat (0, ([], []))).2).2).length : Int))) (IntKind.i64.wrap (i + 1)))
         none))
       none)
      none))
    none)
   (K0 false)

/-- tutor/tutorref10.Huge -/
def e_tutorref10_Huge {R : Type} (g5_5 : (List (Int × (List Int × List Int))) → Int → Int → Int → Option R) (K0 : Bool → Option R) (l : List (Int × (List Int × List Int))) (most : Int) : Option R :=
  bi (decide ((l.length : Int) > most))
   (K0 true)
   (g5_5 l most 0 0)

def run_tutorref10_Huge {R : Type} (K0 : Bool → Option R) : Nat → (List (Int × (List Int × List Int))) → Int → Int → Int → Option R
  | 0 => fun _ _ _ _ => none
  | n + 1 => s_tutorref10_Huge_5 (run_tutorref10_Huge K0 n) K0

def hugeR (most : Int) : Int → List (Int × (List Int × List Int)) → Bool
  | _, [] => false
  | n, x :: xs => if (x.2.1.length : Int) > most - n then true else if (x.2.2.length : Int) > most - (n + x.2.1.length) then true else hugeR most (n + x.2.1.length + x.2.2.length) xs

def hugeS (l : List (Int × (List Int × List Int))) (most : Int) : Bool := if (l.length : Int) > most then true else hugeR most 0 l

def l_tutorref10_Huge {R : Type} (l : List (Int × (List Int × List Int))) (most : Int) (K0 : Bool → Option R) : Option R := bi (decide (0 ≤ most ∧ most ≤ 1099511627776)) (K0 (hugeS l most)) none

theorem hugeLoop {R : Type} {l : List (Int × (List Int × List Int))} {most : Int} (hm : 0 ≤ most ∧ most ≤ 1099511627776) (hl : (l.length : Int) ≤ most) (K0 : Bool → Option R) : ∀ (d i : Nat) (n : Int), i + d = l.length → 0 ≤ n ∧ n ≤ most →
    Reach (fun m => run_tutorref10_Huge K0 m l most n (i : Int)) (K0 (hugeR most n (l.drop i))) := by
  intro d
  induction d with
  | zero =>
    intro i n hi hn
    refine .now fun m => ?_
    dsimp only [run_tutorref10_Huge]
    unfold s_tutorref10_Huge_5
    rw [br_neg (by omega), List.drop_of_length_le (by omega)]
    rfl
  | succ d ih =>
    intro i n hi hn
    have h1 : i < l.length := by omega
    rw [List.drop_eq_getElem_cons h1]
    simp only [hugeR]
    by_cases c1 : ((l[i].2.1).length : Int) > most - n
    · refine .now fun m => ?_
      dsimp only [run_tutorref10_Huge]
      unfold s_tutorref10_Huge_5
      rw [br_pos (by omega), br_pos (by omega), Int.toNat_natCast, getD_of (0, ([], [])) h1, wr (most - n) (by omega) (by omega), br_pos c1, if_pos c1]
    · by_cases c2 : ((l[i].2.2).length : Int) > most - (n + (l[i].2.1).length)
      · refine .now fun m => ?_
        dsimp only [run_tutorref10_Huge]
        unfold s_tutorref10_Huge_5
        rw [br_pos (by omega), br_pos (by omega), Int.toNat_natCast, getD_of (0, ([], [])) h1, wr (most - n) (by omega) (by omega), br_neg c1, if_neg c1, br_pos (by omega), br_pos (by omega), wr (n + ((l[i].2.1).length : Int)) (by omega) (by omega), wr (most - (n + ((l[i].2.1).length : Int))) (by omega) (by omega), br_pos c2, if_pos c2]
      · refine .step (fun m => ?_) (by rw [if_neg c1, if_neg c2]; exact ih (i + 1) (n + (l[i].2.1).length + (l[i].2.2).length) (by omega) (by omega))
        dsimp only [run_tutorref10_Huge]
        unfold s_tutorref10_Huge_5
        rw [br_pos (by omega), br_pos (by omega), Int.toNat_natCast, getD_of (0, ([], [])) h1, wr (most - n) (by omega) (by omega), br_neg c1, br_pos (by omega), br_pos (by omega), wr (n + ((l[i].2.1).length : Int)) (by omega) (by omega), wr (most - (n + ((l[i].2.1).length : Int))) (by omega) (by omega), br_neg c2, br_pos (by omega), wr _ (by omega) (by omega), wr _ (by omega) (by omega)]
        rfl

theorem ok_tutorref10_Huge {R : Type} (l : List (Int × (List Int × List Int))) (most : Int) (K0 : Bool → Option R) {r : R} (h : l_tutorref10_Huge l most K0 = some r) : ∃ fuel, e_tutorref10_Huge (run_tutorref10_Huge K0 fuel) K0 l most = some r := by
  unfold l_tutorref10_Huge at h
  rcases bi_some h with ⟨hs, h⟩ | ⟨_, h⟩
  · have hm : 0 ≤ most ∧ most ≤ 1099511627776 := of_decide_eq_true hs
    rw [← h]
    unfold hugeS
    by_cases hl : (l.length : Int) > most
    · exact ⟨0, by unfold e_tutorref10_Huge; rw [br_pos hl, if_pos hl]⟩
    · obtain ⟨n, hn⟩ := (hugeLoop (l := l) hm (by omega) K0 l.length 0 0 (by omega) (by omega)).get
      exact ⟨n, by unfold e_tutorref10_Huge; rw [br_neg hl, if_neg hl]; exact hn⟩
  · cases h

theorem huge_eq {R : Type} {l : List (Int × (List Int × List Int))} {most : Int} (h : 0 ≤ most ∧ most ≤ 1099511627776) (K0 : Bool → Option R) : l_tutorref10_Huge l most K0 = K0 (hugeS l most) := by
  unfold l_tutorref10_Huge
  rw [br_pos h]

theorem hugeR_len {most : Int} : ∀ (l : List (Int × (List Int × List Int))) (n : Int), hugeR most n l = false → n ≤ most → rowsOk l → n + ((l.map fun a => a.2.1.length + a.2.2.length).sum : Nat) ≤ most ∧ (showS l).length ≤ 2 * l.length + 22 * (l.map fun a => a.2.1.length + a.2.2.length).sum
  | [], n, _, h, _ => by simp [showS]; exact h
  | x :: l, n, h, hn, hr => by
    simp only [hugeR] at h
    split at h
    · cases h
    · split at h
      · cases h
      · have hx := hr x (by simp)
        obtain ⟨h1, h2⟩ := hugeR_len l _ h (by omega) (fun a ha => hr a (by simp [ha]))
        have f1 := flatN_len x.2.1 hx.1.2
        have f2 := flatN_len x.2.2 hx.2.2
        have f3 : (showA x).length ≤ 2 + 22 * (x.2.1.length + x.2.2.length) := by
          unfold showA
          split
          · simp
            omega
          · split
            · simp
            · split
              · simp
                omega
              · simp
        have e : showS (x :: l) = showA x ++ showS l := rfl
        rw [e, List.length_append, List.map_cons, List.sum_cons, List.length_cons]
        omega

theorem huge_ok {l : List (Int × (List Int × List Int))} {most : Int} (h : hugeS l most = false) (hm : 0 ≤ most ∧ most ≤ 1000000) (hr : ∀ a ∈ l, okW a.2.1 ∧ okW a.2.2) : showOk l ∧ (l.length : Int) ≤ most := by
  unfold hugeS at h
  split at h
  · cases h
  · have hr' : rowsOk l := fun a ha => ⟨(hr a ha).1.okL (by have := (hr a ha).1.1; unfold short; omega), (hr a ha).2.okL (by have := (hr a ha).2.1; unfold short; omega)⟩
    obtain ⟨h1, h2⟩ := hugeR_len l 0 h (by omega) hr'
    exact ⟨⟨by unfold short; omega, hr', by omega⟩, by omega⟩


/-- (tutor/teach.said).letter -/
def l_teach_said_letter {R : Type} (s : List Int) (K0 : Int → Option R) : Option R :=
  K0 111

/-- (tutor/teach.said).numbers -/
def l_teach_said_numbers {R : Type} (s : List Int) (K0 : (List Int) → Option R) : Option R :=
  K0 s

/-- (tutor/teach.agreed).letter -/
def l_teach_agreed_letter {R : Type}  (K0 : Int → Option R) : Option R :=
  K0 121

/-- (tutor/teach.agreed).numbers -/
def l_teach_agreed_numbers {R : Type}  (K0 : (List Int) → Option R) : Option R :=
  K0 ([] : List Int)

/-- (tutor/teach.refuted).letter -/
def l_teach_refuted_letter {R : Type} (r : List Int) (K0 : Int → Option R) : Option R :=
  K0 110

/-- (tutor/teach.refuted).numbers -/
def l_teach_refuted_numbers {R : Type} (r : List Int) (K0 : (List Int) → Option R) : Option R :=
  K0 r

/-- strconv.AppendInt -/
def l_strconv_AppendInt {R : Type} (i base : Int) (K0 : List Int → Option R) : Option R := l_AppendInt i base K0

/-- tutor/text.Put -/
def l_text_Put {R : Type} (n : Int) (K0 : (List Int) → Option R) : Option R :=
  l_strconv_AppendInt n 10
   (fun r1 =>
    K0 r1)

theorem put_eq {R : Type} {n : Int} (h : inI n) (K0 : List Int → Option R) : l_text_Put n K0 = K0 (itoaI n) := by
  unfold l_text_Put l_strconv_AppendInt l_AppendInt
  unfold inI at h
  rw [br_pos ⟨rfl, h⟩]

/-- tutor/teach.Show -/
def s_teach_Show_3 {R : Type} (g8_3 : (List (Int × (List Int × List Int))) → Int → Int → (List Int) → Option R) (g8_9 : (List (Int × (List Int × List Int))) → Int → Int → (List Int) → Int → Int → (List Int) → Option R) (g8_9b : (List (Int × (List Int × List Int))) → Int → Int → Int → Int → (List Int) → (List Int) → Option R) (K0 : (List Int) → Option R) (x9 : List (Int × (List Int × List Int))) (x10 : Int) (x11 : Int) (o0 : List Int) : Option R :=
  bi (decide (x11 < x10))
   (bi (decide (0 ≤ x11 ∧ x11 < ((x9.length : Nat) : Int)))
    (l_teach_of ((x9.getD x11.toNat (0, ([], []))).1) (((x9.getD x11.toNat (0, ([], []))).2).1) (((x9.getD x11.toNat (0, ([], []))).2).2)
     (fun r1 =>
      l_teach_said_letter r1
       (fun r2 =>
        bi (decide ((o0.length + [r2].length) * 1 ≤ lim))
         (l_teach_said_numbers r1
          (fun r3 =>
           g8_9 x9 x10 x11 r3 (r3.length : Int) 0 (o0 ++ [r2])))
         none))
     (l_teach_agreed_letter
      (fun r4 =>
       bi (decide ((o0.length + [r4].length) * 1 ≤ lim))
        (l_teach_agreed_numbers
         (fun r5 =>
          g8_9b x9 x10 x11 (r5.length : Int) 0 (o0 ++ [r4]) r5))
        none))
     (fun r6 =>
      l_teach_refuted_letter r6
       (fun r7 =>
        bi (decide ((o0.length + [r7].length) * 1 ≤ lim))
         (l_teach_refuted_numbers r6
          (fun r8 =>
           g8_9 x9 x10 x11 r8 (r8.length : Int) 0 (o0 ++ [r7])))
         none))
     (g8_3 x9 x10 (IntKind.i64.wrap (x11 + 1)) o0))
    none)
   (K0 o0)

/-- tutor/teach.Show -/
def s_teach_Show_9a {R : Type} (g8_3 : (List (Int × (List Int × List Int))) → Int → Int → (List Int) → Option R) (g8_9 : (List (Int × (List Int × List Int))) → Int → Int → (List Int) → Int → Int → (List Int) → Option R) (g8_9b : (List (Int × (List Int × List Int))) → Int → Int → Int → Int → (List Int) → (List Int) → Option R) (K0 : (List Int) → Option R) (x9 : List (Int × (List Int × List Int))) (x10 : Int) (x11 : Int) (x25 : List Int) (x26 : Int) (x27 : Int) (o0 : List Int) : Option R :=
  bi (decide (x27 < x26))
   (bi (decide (0 ≤ x27 ∧ x27 < ((x25.length : Nat) : Int)))
    (bi (decide ((o0.length + [32].length) * 1 ≤ lim))
     (l_text_Put (x25.getD x27.toNat 0)
      (fun r9 =>
       bi (decide (((o0 ++ [32]).length + r9.length) * 1 ≤ lim))
        (g8_9 x9 x10 x11 x25 x26 (IntKind.i64.wrap (x27 + 1)) ((o0 ++ [32]) ++ r9))
        none))
     none)
    none)
   (bi (decide ((o0.length + [10].length) * 1 ≤ lim))
    (g8_3 x9 x10 (IntKind.i64.wrap (x11 + 1)) (o0 ++ [10]))
    none)

/-- tutor/teach.Show -/
def s_teach_Show_9b {R : Type} (g8_3 : (List (Int × (List Int × List Int))) → Int → Int → (List Int) → Option R) (g8_9 : (List (Int × (List Int × List Int))) → Int → Int → (List Int) → Int → Int → (List Int) → Option R) (g8_9b : (List (Int × (List Int × List Int))) → Int → Int → Int → Int → (List Int) → (List Int) → Option R) (K0 : (List Int) → Option R) (x9 : List (Int × (List Int × List Int))) (x10 : Int) (x11 : Int) (x26 : Int) (x27 : Int) (o0 : List Int) (o1 : List Int) : Option R :=
  bi (decide (x27 < x26))
   (bi (decide (0 ≤ x27 ∧ x27 < ((o1.length : Nat) : Int)))
    (bi (decide ((o0.length + [32].length) * 1 ≤ lim))
     (l_text_Put (o1.getD x27.toNat 0)
      (fun r10 =>
       bi (decide (((o0 ++ [32]).length + r10.length) * 1 ≤ lim))
        (g8_9b x9 x10 x11 x26 (IntKind.i64.wrap (x27 + 1)) ((o0 ++ [32]) ++ r10) o1)
        none))
     none)
    none)
   (bi (decide ((o0.length + [10].length) * 1 ≤ lim))
    (g8_3 x9 x10 (IntKind.i64.wrap (x11 + 1)) (o0 ++ [10]))
    none)

/-- tutor/teach.Show -/
def e_teach_Show {R : Type} (g8_3 : (List (Int × (List Int × List Int))) → Int → Int → (List Int) → Option R) (g8_9 : (List (Int × (List Int × List Int))) → Int → Int → (List Int) → Int → Int → (List Int) → Option R) (g8_9b : (List (Int × (List Int × List Int))) → Int → Int → Int → Int → (List Int) → (List Int) → Option R) (K0 : (List Int) → Option R) (l : List (Int × (List Int × List Int))) : Option R :=
  g8_3 l (l.length : Int) 0 ([] : List Int)

def run_teach_Show {R : Type} (K0 : (List Int) → Option R) : Nat → ((List (Int × (List Int × List Int))) → Int → Int → (List Int) → Option R) × ((List (Int × (List Int × List Int))) → Int → Int → (List Int) → Int → Int → (List Int) → Option R) × ((List (Int × (List Int × List Int))) → Int → Int → Int → Int → (List Int) → (List Int) → Option R)
  | 0 => (fun _ _ _ _ => none, fun _ _ _ _ _ _ _ => none, fun _ _ _ _ _ _ _ => none)
  | n + 1 => (s_teach_Show_3 (run_teach_Show K0 n).1 (run_teach_Show K0 n).2.1 (run_teach_Show K0 n).2.2 K0, s_teach_Show_9a (run_teach_Show K0 n).1 (run_teach_Show K0 n).2.1 (run_teach_Show K0 n).2.2 K0, s_teach_Show_9b (run_teach_Show K0 n).1 (run_teach_Show K0 n).2.1 (run_teach_Show K0 n).2.2 K0)

def l_teach_Show {R : Type} (l : List (Int × (List Int × List Int))) (K0 : (List Int) → Option R) : Option R := bi (decide (showOk l)) (K0 (showS l)) none

theorem showN_run {R : Type} {l : List (Int × (List Int × List Int))} {n : List Int} {i : Int} (hn : okL n) (hi : 0 ≤ i ∧ i < 4611686018427387904) (K0 : (List Int) → Option R) {v : Option R} :
    ∀ (d k : Nat) (o : List Int), k + d = n.length → (o ++ flatN (n.drop k) ++ [10]).length ≤ 1099511627776 →
      Reach (fun m => (run_teach_Show K0 m).1 l (l.length : Int) (i + 1) (o ++ flatN (n.drop k) ++ [10])) v → Reach (fun m => (run_teach_Show K0 m).2.1 l (l.length : Int) i n (n.length : Int) (k : Int) o) v := by
  have hs : n.length < 4611686018427387904 := hn.1
  intro d
  induction d with
  | zero =>
    intro k o hk hl hv
    have e : n.drop k = [] := List.drop_of_length_le (by omega)
    rw [e] at hv hl
    refine .step (fun m => ?_) hv
    rw [show (run_teach_Show K0 (m + 1)).2.1 = s_teach_Show_9a (run_teach_Show K0 m).1 (run_teach_Show K0 m).2.1 (run_teach_Show K0 m).2.2 K0 from rfl]
    unfold s_teach_Show_9a
    have hl1 : (o.length + ([10] : List Nat).length) * 1 ≤ lim := by
      unfold lim
      simp [flatN] at hl ⊢
      omega
    rw [br_neg (by omega), br_pos hl1, wr (i + 1) (by omega) (by omega)]
    simp [flatN]
  | succ d ih =>
    intro k o hk hl hv
    have h1 : k < n.length := by omega
    rw [List.drop_eq_getElem_cons h1, flatN_cons] at hv hl
    have hx : inI n[k] := hn.2 _ (List.getElem_mem h1)
    refine .step (fun m => ?_) (ih (k + 1) ((o ++ [32]) ++ itoaI n[k]) (by omega) (by simpa using hl) (by simpa using hv))
    rw [show (run_teach_Show K0 (m + 1)).2.1 = s_teach_Show_9a (run_teach_Show K0 m).1 (run_teach_Show K0 m).2.1 (run_teach_Show K0 m).2.2 K0 from rfl]
    unfold s_teach_Show_9a
    have hl1 : (o.length + ([32] : List Nat).length) * 1 ≤ lim := by
      unfold lim
      simp at hl ⊢
      omega
    have hl2 : ((o ++ [32]).length + (itoaI n[k]).length) * 1 ≤ lim := by
      unfold lim
      simp at hl ⊢
      omega
    rw [br_pos (by omega), br_pos (by omega), br_pos hl1, Int.toNat_natCast, getD_of 0 h1, put_eq hx]
    try dsimp only
    rw [br_pos hl2, wr _ (by omega) (by omega)]
    rfl

theorem show_run {R : Type} {l : List (Int × (List Int × List Int))} (hs : short l) (hr : rowsOk l) (K0 : (List Int) → Option R) :
    ∀ (d i : Nat) (o : List Int), i + d = l.length → (o ++ showS (l.drop i)).length ≤ 1099511627776 → Reach (fun m => (run_teach_Show K0 m).1 l (l.length : Int) (i : Int) o) (K0 (o ++ showS (l.drop i))) := by
  unfold short at hs
  intro d
  induction d with
  | zero =>
    intro i o hi hl
    refine .now fun m => ?_
    rw [show (run_teach_Show K0 (m + 1)).1 = s_teach_Show_3 (run_teach_Show K0 m).1 (run_teach_Show K0 m).2.1 (run_teach_Show K0 m).2.2 K0 from rfl]
    unfold s_teach_Show_3
    rw [br_neg (by omega), List.drop_of_length_le (by omega)]
    simp [showS]
  | succ d ih =>
    intro i o hi hl
    have h1 : i < l.length := by omega
    rw [List.drop_eq_getElem_cons h1] at hl ⊢
    have hm := hr _ (List.getElem_mem h1)
    have e0 : showS (l[i] :: l.drop (i + 1)) = showA l[i] ++ showS (l.drop (i + 1)) := rfl
    rw [e0] at hl ⊢
    have ih2 := ih (i + 1) (o ++ showA l[i]) (by omega) (by simpa using hl)
    rw [List.append_assoc] at ih2
    have key : ∀ m, (run_teach_Show K0 (m + 1)).1 l (l.length : Int) (i : Int) o =
        if l[i].1 = 1 then (run_teach_Show K0 m).2.1 l (l.length : Int) (i : Int) l[i].2.1 (l[i].2.1.length : Int) 0 (o ++ [111])
        else if l[i].1 = 2 then (run_teach_Show K0 m).2.2 l (l.length : Int) (i : Int) 0 0 (o ++ [121]) []
        else if l[i].1 = 3 then (run_teach_Show K0 m).2.1 l (l.length : Int) (i : Int) l[i].2.2 (l[i].2.2.length : Int) 0 (o ++ [110])
        else (run_teach_Show K0 m).1 l (l.length : Int) ((i : Int) + 1) o := by
      intro m
      rw [show (run_teach_Show K0 (m + 1)).1 = s_teach_Show_3 (run_teach_Show K0 m).1 (run_teach_Show K0 m).2.1 (run_teach_Show K0 m).2.2 K0 from rfl]
      unfold s_teach_Show_3 l_teach_of l_teach_said_letter l_teach_said_numbers l_teach_agreed_letter l_teach_agreed_numbers l_teach_refuted_letter l_teach_refuted_numbers
      have hl1 : ∀ c : Int, (o.length + ([c] : List Int).length) * 1 ≤ lim := by
        intro c
        unfold lim
        simp at hl ⊢
        omega
      rw [br_pos (by omega), br_pos (by omega), Int.toNat_natCast, getD_of (0, ([], [])) h1, wr ((i : Int) + 1) (by omega) (by omega)]
      by_cases c1 : l[i].1 = 1
      · rw [br_eq c1, if_pos c1]
        exact br_pos (hl1 _)
      · rw [br_eq' c1, if_neg c1]
        by_cases c2 : l[i].1 = 2
        · rw [br_eq c2, if_pos c2]
          exact br_pos (hl1 _)
        · rw [br_eq' c2, if_neg c2]
          by_cases c3 : l[i].1 = 3
          · rw [br_eq c3, if_pos c3]
            exact br_pos (hl1 _)
          · rw [br_eq' c3, if_neg c3]
    by_cases c1 : l[i].1 = 1
    · have ea : showA l[i] = 111 :: flatN l[i].2.1 ++ [10] := if_pos c1
      rw [ea] at ih2 hl ⊢
      refine .step (fun m => (key m).trans (if_pos c1)) (showN_run hm.1 (by omega) K0 l[i].2.1.length 0 (o ++ [111]) (by omega) ?_ ?_)
      · simp at hl ⊢
        omega
      · simpa using ih2
    · by_cases c2 : l[i].1 = 2
      · have ea : showA l[i] = [121, 10] := (if_neg c1).trans (if_pos c2)
        rw [ea] at ih2 hl ⊢
        refine .step (fun m => (key m).trans ((if_neg c1).trans (if_pos c2))) (.step (fun m => ?_) (by simpa using ih2))
        rw [show (run_teach_Show K0 (m + 1)).2.2 = s_teach_Show_9b (run_teach_Show K0 m).1 (run_teach_Show K0 m).2.1 (run_teach_Show K0 m).2.2 K0 from rfl]
        unfold s_teach_Show_9b
        have hl1 : ((o ++ [121]).length + ([10] : List Nat).length) * 1 ≤ lim := by
          unfold lim
          simp at hl ⊢
          omega
        rw [br_neg (by omega), br_pos hl1, wr ((i : Int) + 1) (by omega) (by omega)]
        simp
      · by_cases c3 : l[i].1 = 3
        · have ea : showA l[i] = 110 :: flatN l[i].2.2 ++ [10] := (if_neg c1).trans ((if_neg c2).trans (if_pos c3))
          rw [ea] at ih2 hl ⊢
          refine .step (fun m => (key m).trans ((if_neg c1).trans ((if_neg c2).trans (if_pos c3)))) (showN_run hm.2 (by omega) K0 l[i].2.2.length 0 (o ++ [110]) (by omega) ?_ ?_)
          · simp at hl ⊢
            omega
          · simpa using ih2
        · have ea : showA l[i] = [] := (if_neg c1).trans ((if_neg c2).trans (if_neg c3))
          rw [ea] at ih2 hl ⊢
          refine .step (fun m => (key m).trans ((if_neg c1).trans ((if_neg c2).trans (if_neg c3)))) (by simpa using ih2)

theorem ok_teach_Show {R : Type} (l : List (Int × (List Int × List Int))) (K0 : (List Int) → Option R) {r : R} (h : l_teach_Show l K0 = some r) : ∃ fuel, e_teach_Show (run_teach_Show K0 fuel).1 (run_teach_Show K0 fuel).2.1 (run_teach_Show K0 fuel).2.2 K0 l = some r := by
  unfold l_teach_Show at h
  rcases bi_some h with ⟨hs, h⟩ | ⟨_, h⟩
  · obtain ⟨h1, h2, h3⟩ := of_decide_eq_true hs
    rw [← h]
    obtain ⟨n, hn⟩ := (show_run h1 h2 K0 l.length 0 [] (by omega) (by simpa using h3)).get
    refine ⟨n, ?_⟩
    unfold e_teach_Show
    simpa using hn
  · cases h

/-- tutor/tutorref08.Same -/
def l_tutorref08_Same {R : Type} (a : List Int) (b : List Int) (K0 : Bool → Option R) : Option R :=
  K0 ((ofBts a).toList == (ofBts b).toList)

theorem sameB_eq {R : Type} (a : List Int) (K0 : Bool → Option R) : l_tutorref08_Same a a K0 = K0 true := by
  unfold l_tutorref08_Same
  rw [beq_self_eq_true]


/-- tutor/tutorref10.Same -/
def s_tutorref10_Same_4 {R : Type} (g12_4 : (List (Int × (List Int × List Int))) → (List (Int × (List Int × List Int))) → Int → Option R) (K0 : Bool → Option R) (a : List (Int × (List Int × List Int))) (b : List (Int × (List Int × List Int))) (i : Int) : Option R :=
  bi (decide (i < (a.length : Int)))
   (bi (decide (0 ≤ i ∧ i < ((a.length : Nat) : Int)))
    (bi (decide (0 ≤ i ∧ i < ((b.length : Nat) : Int)))
     (bi (((a.getD i.toNat (0, ([], []))).1) != ((b.getD i.toNat (0, ([], []))).1))
      (K0 false)
      (bi (decide (0 ≤ i ∧ i < ((a.length : Nat) : Int)))
       (bi (decide (0 ≤ i ∧ i < ((b.length : Nat) : Int)))
        (l_tutorref01_Same (((a.getD i.toNat (0, ([], []))).2).1) (((b.getD i.toNat (0, ([], []))).2).1)
         (fun r1 =>
          bi (!r1)
           (K0 false)
           (bi (decide (0 ≤ i ∧ i < ((a.length : Nat) : Int)))
            (bi (decide (0 ≤ i ∧ i < ((b.length : Nat) : Int)))
             (both
              (l_tutorref01_Same (((a.getD i.toNat (0, ([], []))).2).2) (((b.getD i.toNat (0, ([], []))).2).2)
               (fun r2 =>
                bi (!r2)
                 (K0 false)
                 (g12_4 a b (IntKind.i64.wrap (i + 1)))))
              (l_tutorref01_Same (((a.getD i.toNat (0, ([], []))).2).2) (((b.getD i.toNat (0, ([], []))).2).2)
               (fun r3 =>
                bi (!r3)
                 (K0 false)
                 (g12_4 a b (IntKind.i64.wrap (i + 1))))))
             none)
            none)))
        none)
       none))
     none)
    none)
   (K0 true)

/-- tutor/tutorref10.Same -/
def e_tutorref10_Same {R : Type} (g12_4 : (List (Int × (List Int × List Int))) → (List (Int × (List Int × List Int))) → Int → Option R) (K0 : Bool → Option R) (a : List (Int × (List Int × List Int))) (b : List (Int × (List Int × List Int))) : Option R :=
  bi ((a.length : Int) != (b.length : Int))
   (K0 false)
   (g12_4 a b 0)

def run_tutorref10_Same {R : Type} (K0 : Bool → Option R) : Nat → (List (Int × (List Int × List Int))) → (List (Int × (List Int × List Int))) → Int → Option R
  | 0 => fun _ _ _ => none
  | n + 1 => s_tutorref10_Same_4 (run_tutorref10_Same K0 n) K0

def shortA (l : List (Int × (List Int × List Int))) : Bool := decide (l.length < 4611686018427387904) && l.all fun e => decide (short e.2.1) && decide (short e.2.2)

def l_tutorref10_Same {R : Type} (a : List (Int × (List Int × List Int))) (b : List (Int × (List Int × List Int))) (K0 : Bool → Option R) : Option R :=
  bi (shortA a) (K0 (decide (a = b))) none

theorem sameA_run {R : Type} {a b : List (Int × (List Int × List Int))} (hs : shortA a = true) (hl : a.length = b.length) (K0 : Bool → Option R) :
    ∀ (d i : Nat), i + d = a.length → a.take i = b.take i → Reach (fun m => run_tutorref10_Same K0 m a b (i : Int)) (K0 (decide (a = b))) := by
  unfold shortA at hs
  rw [Bool.and_eq_true, List.all_eq_true] at hs
  have hsl : a.length < 4611686018427387904 := of_decide_eq_true hs.1
  have hse : ∀ e ∈ a, short e.2.1 ∧ short e.2.2 := fun e he => by
    have := hs.2 e he
    rw [Bool.and_eq_true] at this
    exact ⟨of_decide_eq_true this.1, of_decide_eq_true this.2⟩
  intro d
  induction d with
  | zero =>
    intro i hi ht
    have e : a = b := by
      rw [List.take_of_length_le (by omega), List.take_of_length_le (by omega)] at ht
      exact ht
    refine .now fun m => ?_
    show s_tutorref10_Same_4 _ _ _ _ _ = _
    unfold s_tutorref10_Same_4
    rw [br_neg (by omega), decide_eq_true e]
  | succ d ih =>
    intro i hi ht
    have h1 : i < a.length := by omega
    have h2 : i < b.length := by omega
    have hm := hse _ (List.getElem_mem h1)
    have key : ∀ m, run_tutorref10_Same K0 (m + 1) a b (i : Int) = if a[i] = b[i] then run_tutorref10_Same K0 m a b ((i + 1 : Nat) : Int) else K0 false := by
      intro m
      show s_tutorref10_Same_4 (run_tutorref10_Same K0 m) _ _ _ _ = _
      unfold s_tutorref10_Same_4
      simp only [both_same]
      rw [br_pos (by omega), br_pos (by omega), br_pos (by omega), br_pos (p := 0 ≤ (i : Int) ∧ (i : Int) < ((a.length : Nat) : Int)) (by omega), br_pos (p := 0 ≤ (i : Int) ∧ (i : Int) < ((b.length : Nat) : Int)) (by omega),
        br_pos (p := 0 ≤ (i : Int) ∧ (i : Int) < ((a.length : Nat) : Int)) (by omega), br_pos (p := 0 ≤ (i : Int) ∧ (i : Int) < ((b.length : Nat) : Int)) (by omega), Int.toNat_natCast, getD_of (0, ([], [])) h1, getD_of (0, ([], [])) h2, wr _ (by omega) (by omega)]
      by_cases c1 : a[i].1 = b[i].1
      · rw [br_ne' c1, same_eq hm.1]
        try dsimp only
        by_cases c2 : a[i].2.1 = b[i].2.1
        · rw [decide_eq_true c2, show (!true) = false from rfl, br_ff, same_eq hm.2]
          try dsimp only
          by_cases c3 : a[i].2.2 = b[i].2.2
          · rw [decide_eq_true c3, show (!true) = false from rfl, br_ff, if_pos (Prod.ext c1 (Prod.ext c2 c3))]
            rfl
          · rw [decide_eq_false c3, show (!false) = true from rfl, br_tt, if_neg (fun h => c3 (by rw [h]))]
        · rw [decide_eq_false c2, show (!false) = true from rfl, br_tt, if_neg (fun h => c2 (by rw [h]))]
      · rw [br_ne c1, if_neg (fun h => c1 (by rw [h]))]
    by_cases c : a[i] = b[i]
    · refine .step (fun m => by rw [key, if_pos c]) (ih (i + 1) (by omega) ?_)
      rw [List.take_add_one, List.take_add_one, ht, List.getElem?_eq_getElem h1, List.getElem?_eq_getElem h2, c]
    · refine .now fun m => ?_
      rw [key, if_neg c, decide_eq_false]
      intro h
      exact c (by simp only [h])

theorem ok_tutorref10_Same {R : Type} (a : List (Int × (List Int × List Int))) (b : List (Int × (List Int × List Int))) (K0 : Bool → Option R) {r : R} (h : l_tutorref10_Same a b K0 = some r) : ∃ fuel, e_tutorref10_Same (run_tutorref10_Same K0 fuel) K0 a b = some r := by
  unfold l_tutorref10_Same at h
  rcases bi_some h with ⟨hs, h⟩ | ⟨_, h⟩
  · rw [← h]
    unfold e_tutorref10_Same
    by_cases hl : a.length = b.length
    · obtain ⟨n, hn⟩ := (sameA_run hs hl K0 a.length 0 (by omega) rfl).get
      refine ⟨n, ?_⟩
      rw [br_ne' (by omega)]
      exact hn
    · refine ⟨0, ?_⟩
      rw [br_ne (by omega), decide_eq_false]
      intro e
      exact hl (by rw [e])
  · cases h

/-- tutor/tutorlaw10.TeachBack -/
def s_tutorlaw10_TeachBack_8 {R : Type} (g4_8 : (List (Int × (List Int × List Int))) → Int → (List (Int × (List Int × List Int))) → Option R) (g4_13 : (List (Int × (List Int × List Int))) → Int → Int → (List (Int × (List Int × List Int))) → Int → (List Int) → (List Int) → Option R) (K0 : Bool → Option R) (l : List (Int × (List Int × List Int))) (i : Int) (o0 : List (Int × (List Int × List Int))) : Option R :=
  bi (decide (i < (l.length : Int)))
   (bi (decide (0 ≤ i ∧ i < ((l.length : Nat) : Int)))
    (bi (decide (0 ≤ i ∧ i < ((l.length : Nat) : Int)))
     (bi ((IntKind.i64.wrap (BitVec.ofInt 64 ((l.getD i.toNat (0, ([], []))).1) &&& BitVec.ofInt 64 1).toNat) == 0)
      (g4_13 l i 0 o0 (IntKind.i64.wrap (1 + (IntKind.i64.wrap (BitVec.ofInt 64 ((l.getD i.toNat (0, ([], []))).1) &&& BitVec.ofInt 64 1).toNat))) ([] : List Int) ([] : List Int))
      (bi (decide ((o0.length + [(IntKind.i64.wrap (1 + (IntKind.i64.wrap (BitVec.ofInt 64 ((l.getD i.toNat (0, ([], []))).1) &&& BitVec.ofInt 64 1).toNat)), (([] : List Int), ([] : List Int)))].length) * 56 ≤ lim))
       (g4_8 l (IntKind.i64.wrap (i + 1)) (o0 ++ [(IntKind.i64.wrap (1 + (IntKind.i64.wrap (BitVec.ofInt 64 ((l.getD i.toNat (0, ([], []))).1) &&& BitVec.ofInt 64 1).toNat)), (([] : List Int), ([] : List Int)))]))
       none))
     none)
    none)
   (l_teach_Show o0
    (fun r10 =>
     l_teach_Parse r10
      (fun r11 r12 r13 =>
       l_tutorlaw10_num r11
        (fun r14 =>
         bi (r14 == 0)
          (l_teach_Show o0
           (fun r15 =>
            bi (r12 == (r15.length : Int))
             (l_tutorref10_Same r13 o0
              (fun r16 =>
               bi r16
                (l_tutorlaw10_live
                 (fun r17 =>
                  K0 r17))
                (K0 false)))
             (K0 false)))
          (K0 false)))))

/-- tutor/tutorlaw10.TeachBack -/
def s_tutorlaw10_TeachBack_13 {R : Type} (g4_8 : (List (Int × (List Int × List Int))) → Int → (List (Int × (List Int × List Int))) → Option R) (g4_13 : (List (Int × (List Int × List Int))) → Int → Int → (List (Int × (List Int × List Int))) → Int → (List Int) → (List Int) → Option R) (K0 : Bool → Option R) (l : List (Int × (List Int × List Int))) (i : Int) (k : Int) (o0 : List (Int × (List Int × List Int))) (o1 : Int) (o2 : List Int) (o3 : List Int) : Option R :=
  bi (decide (0 ≤ i ∧ i < ((l.length : Nat) : Int)))
   (bi (decide (k < ((((l.getD i.toNat (0, ([], []))).2).1).length : Int)))
    (bi (decide (0 ≤ i ∧ i < ((l.length : Nat) : Int)))
     (bi (decide (0 ≤ k ∧ k < (((((l.getD i.toNat (0, ([], []))).2).1).length : Nat) : Int)))
      (bi (decide ((o2.length + [IntKind.i64.wrap (BitVec.ofInt 64 ((((l.getD i.toNat (0, ([], []))).2).1).getD k.toNat 0) &&& BitVec.ofInt 64 1023).toNat].length) * 8 ≤ lim))
       (g4_13 l i (IntKind.i64.wrap (k + 1)) o0 o1 (o2 ++ [IntKind.i64.wrap (BitVec.ofInt 64 ((((l.getD i.toNat (0, ([], []))).2).1).getD k.toNat 0) &&& BitVec.ofInt 64 1023).toNat]) o3)
       none)
      none)
     none)
    (bi (decide ((o0.length + [(o1, (o2, o3))].length) * 56 ≤ lim))
     (g4_8 l (IntKind.i64.wrap (i + 1)) (o0 ++ [(o1, (o2, o3))]))
     none))
   none

/-- tutor/tutorlaw10.TeachBack -/
def e_tutorlaw10_TeachBack {R : Type} (g4_8 : (List (Int × (List Int × List Int))) → Int → (List (Int × (List Int × List Int))) → Option R) (g4_13 : (List (Int × (List Int × List Int))) → Int → Int → (List (Int × (List Int × List Int))) → Int → (List Int) → (List Int) → Option R) (K0 : Bool → Option R) (b : List Int) (l : List (Int × (List Int × List Int))) : Option R :=
  bi (decide ((b.length : Int) > 20000))
   (l_tutorlaw10_live
    (fun r1 =>
     K0 r1))
   (l_tutorref10_Huge l 4000
    (fun r2 =>
     bi r2
      (l_tutorlaw10_live
       (fun r3 =>
        K0 r3))
      (l_teach_Parse b
       (fun r4 r5 r6 =>
        l_tutorlaw10_num r4
         (fun r7 =>
          bi (r7 == 0)
           (bi (r5 != (b.length : Int))
            (K0 false)
            (l_teach_Show r6
             (fun r8 =>
              l_tutorref08_Same r8 b
               (fun r9 =>
                bi (!r9)
                 (K0 false)
                 (g4_8 l 0 ([] : List (Int × (List Int × List Int))))))))
           (g4_8 l 0 ([] : List (Int × (List Int × List Int)))))))))

def run_tutorlaw10_TeachBack {R : Type} (K0 : Bool → Option R) : Nat → ((List (Int × (List Int × List Int))) → Int → (List (Int × (List Int × List Int))) → Option R) × ((List (Int × (List Int × List Int))) → Int → Int → (List (Int × (List Int × List Int))) → Int → (List Int) → (List Int) → Option R)
  | 0 => (fun _ _ _ => none, fun _ _ _ _ _ _ _ => none)
  | n + 1 => (s_tutorlaw10_TeachBack_8 (run_tutorlaw10_TeachBack K0 n).1 (run_tutorlaw10_TeachBack K0 n).2 K0, s_tutorlaw10_TeachBack_13 (run_tutorlaw10_TeachBack K0 n).1 (run_tutorlaw10_TeachBack K0 n).2 K0)

theorem and_le (x : Int) (b : Nat) (hb : b < 2 ^ 62) : 0 ≤ IntKind.i64.wrap (BitVec.ofInt 64 x &&& BitVec.ofInt 64 (b : Int)).toNat ∧ IntKind.i64.wrap (BitVec.ofInt 64 x &&& BitVec.ofInt 64 (b : Int)).toNat ≤ b := by
  have h1 : (BitVec.ofInt 64 x &&& BitVec.ofInt 64 (b : Int)).toNat ≤ b := by
    rw [BitVec.toNat_and]
    refine Nat.le_trans Nat.and_le_right ?_
    rw [BitVec.toNat_ofInt]
    omega
  rw [wr _ (by omega) (by omega)]
  omega

def kindB (a : Ans) : Int := IntKind.i64.wrap (BitVec.ofInt 64 a.1 &&& BitVec.ofInt 64 1).toNat
def outB (x : Int) : Int := IntKind.i64.wrap (BitVec.ofInt 64 x &&& BitVec.ofInt 64 1023).toNat
def plainB (a : Ans) : Ans := (1 + kindB a, (if kindB a = 0 then a.2.1.map outB else [], []))

theorem kindB_or (a : Ans) : kindB a = 0 ∨ kindB a = 1 := by
  have := and_le a.1 1 (by decide)
  have e : ((1 : Nat) : Int) = 1 := rfl
  rw [e] at this
  unfold kindB
  omega
theorem outB_small (x : Int) : small (outB x) := by
  have := and_le x 1023 (by decide)
  have e : ((1023 : Nat) : Int) = 1023 := rfl
  rw [e] at this
  unfold small outB
  omega

theorem plainB_plain {a : Ans} (h : a.2.1.length ≤ 4096) : plainA (plainB a) := by
  unfold plainB
  rcases kindB_or a with c | c
  · refine .inl ⟨by rw [c]; rfl, rfl, ?_, ?_⟩
    · rw [if_pos c, List.length_map]
      exact h
    · rw [if_pos c]
      intro m hm
      obtain ⟨x, _, rfl⟩ := List.mem_map.1 hm
      exact outB_small x
  · refine .inr (.inl ⟨by rw [c]; rfl, ?_⟩)
    rw [if_neg (by omega)]

def backEnd {R : Type} (K0 : Bool → Option R) (o : List Ans) : Option R :=
  l_teach_Show o fun r10 => l_teach_Parse r10 fun r11 r12 r13 => l_tutorlaw10_num r11 fun r14 => bi (r14 == 0) (l_teach_Show o fun r15 => bi (r12 == (r15.length : Int)) (l_tutorref10_Same r13 o fun r16 => bi r16 (l_tutorlaw10_live fun r17 => K0 r17) (K0 false)) (K0 false)) (K0 false)

def backOk (b : List Int) (l : List Ans) : Prop := short b ∧ (∀ a ∈ l, okW a.2.1 ∧ okW a.2.2)
instance (b : List Int) (l : List Ans) : Decidable (backOk b l) := by unfold backOk okW; infer_instance

def l_tutorlaw10_TeachBack {R : Type} (b : List Int) (l : List (Int × (List Int × List Int))) (K0 : Bool → Option R) : Option R := bi (decide (backOk b l)) (K0 true) none

theorem backEnd_eq {R : Type} (K0 : Bool → Option R) (l : List Ans) (hl : l.length ≤ 4000) (hr : ∀ a ∈ l, a.2.1.length ≤ 4000) (hsum : (showS (l.map plainB)).length ≤ 16777216) : backEnd K0 (l.map plainB) = K0 true := by
  have hp : ∀ a ∈ l.map plainB, plainA a := fun a ha => by
    obtain ⟨x, hx, rfl⟩ := List.mem_map.1 ha
    exact plainB_plain (by have := hr x hx; omega)
  have ho : showOk (l.map plainB) := ⟨by unfold short; rw [List.length_map]; omega, fun a ha => plain_okL (hp a ha), by omega⟩
  have hs : parseS (showS (l.map plainB)) = (l.map plainB, 0, (showS (l.map plainB)).length) := by
    unfold parseS
    have := showS_ge _ hp
    rw [if_neg (by omega), parse_back _ _ [] 0 hp (by simp; omega) (by omega)]
    simp
  have hsa : shortA (l.map plainB) = true := by
    unfold shortA
    rw [Bool.and_eq_true, List.all_eq_true]
    refine ⟨decide_eq_true (by rw [List.length_map]; omega), fun a ha => ?_⟩
    rw [Bool.and_eq_true]
    exact ⟨decide_eq_true (plain_okL (hp a ha)).1.1, decide_eq_true (plain_okL (hp a ha)).2.1⟩
  unfold backEnd l_teach_Show
  rw [br_pos ho]
  try dsimp only
  rw [parse_eq (by unfold short; omega), hs]
  unfold l_tutorlaw10_num
  try dsimp only
  rw [br_eq rfl, br_pos ho]
  try dsimp only
  rw [br_eq rfl]
  unfold l_tutorref10_Same
  rw [hsa, br_tt, decide_eq_true rfl]
  try dsimp only
  rw [br_tt, live10]

theorem back_row {R : Type} (K0 : Bool → Option R) {l : List Ans} {i : Nat} (h1 : i < l.length) {o : List Ans} (hl : l.length ≤ 4000) (ho : o.length ≤ 4000) (hr : l[i].2.1.length ≤ 4000) (k0 : kindB l[i] = 0) {v : Option R} :
    ∀ (d k : Nat), k + d = l[i].2.1.length → Reach (fun m => (run_tutorlaw10_TeachBack K0 m).1 l ((i : Int) + 1) (o ++ [plainB l[i]])) v → Reach (fun m => (run_tutorlaw10_TeachBack K0 m).2 l (i : Int) (k : Int) o 1 ((l[i].2.1.take k).map outB) []) v := by
  intro d
  have open_ : ∀ m, (run_tutorlaw10_TeachBack K0 (m + 1)).2 = s_tutorlaw10_TeachBack_13 (run_tutorlaw10_TeachBack K0 m).1 (run_tutorlaw10_TeachBack K0 m).2 K0 := fun _ => rfl
  induction d with
  | zero =>
    intro k hk hv
    refine .step (fun m => ?_) hv
    rw [open_]
    unfold s_tutorlaw10_TeachBack_13
    rw [br_pos (by omega), Int.toNat_natCast, getD_of (0, ([], [])) h1, br_neg (by omega), br_pos (by unfold lim; simp; omega), wr _ (by omega) (by omega), List.take_of_length_le (by omega)]
    unfold plainB
    rw [if_pos k0, k0]
    rfl
  | succ d ih =>
    intro k hk hv
    have h2 : k < l[i].2.1.length := by omega
    refine .step (fun m => ?_) (ih (k + 1) (by omega) hv)
    rw [open_]
    unfold s_tutorlaw10_TeachBack_13
    rw [br_pos (by omega), Int.toNat_natCast, getD_of (0, ([], [])) h1, br_pos (by omega), br_pos (by omega), br_pos (by omega), Int.toNat_natCast, getD_of 0 h2, br_pos (by unfold lim; simp; omega), wr ((k : Int) + 1) (by omega) (by omega), List.take_add_one, List.getElem?_eq_getElem h2]
    simp only [List.map_append, Option.toList_some, List.map_cons, List.map_nil]
    rfl

theorem back_run {R : Type} (K0 : Bool → Option R) {l : List Ans} (hl : l.length ≤ 4000) (hr : ∀ a ∈ l, a.2.1.length ≤ 4000) : ∀ (d i : Nat), i + d = l.length →
    Reach (fun m => (run_tutorlaw10_TeachBack K0 m).1 l (i : Int) ((l.take i).map plainB)) (backEnd K0 (l.map plainB)) := by
  intro d
  have open_ : ∀ m, (run_tutorlaw10_TeachBack K0 (m + 1)).1 = s_tutorlaw10_TeachBack_8 (run_tutorlaw10_TeachBack K0 m).1 (run_tutorlaw10_TeachBack K0 m).2 K0 := fun _ => rfl
  induction d with
  | zero =>
    intro i hi
    refine .now fun m => ?_
    rw [open_, List.take_of_length_le (by omega)]
    unfold s_tutorlaw10_TeachBack_8
    rw [br_neg (by omega)]
    rfl
  | succ d ih =>
    intro i hi
    have h1 : i < l.length := by omega
    have e : (l.take (i + 1)).map plainB = (l.take i).map plainB ++ [plainB l[i]] := by
      rw [List.take_add_one, List.getElem?_eq_getElem h1, List.map_append]
      rfl
    have ih2 := ih (i + 1) (by omega)
    rw [e] at ih2
    have key : ∀ m, (run_tutorlaw10_TeachBack K0 (m + 1)).1 l (i : Int) ((l.take i).map plainB) = if kindB l[i] = 0 then (run_tutorlaw10_TeachBack K0 m).2 l (i : Int) 0 ((l.take i).map plainB) 1 [] [] else (run_tutorlaw10_TeachBack K0 m).1 l ((i : Int) + 1) ((l.take i).map plainB ++ [plainB l[i]]) := by
      intro m
      rw [open_]
      unfold s_tutorlaw10_TeachBack_8
      rw [br_pos (by omega), br_pos (by omega), br_pos (by omega), Int.toNat_natCast, getD_of (0, ([], [])) h1]
      have ek : IntKind.i64.wrap (BitVec.ofInt 64 l[i].1 &&& BitVec.ofInt 64 1).toNat = kindB l[i] := rfl
      rw [ek]
      rcases kindB_or l[i] with c | c
      · rw [br_eq c, if_pos c, c]
        rfl
      · rw [br_eq' (by omega), if_neg (by omega), br_pos (by unfold lim; simp; omega), wr ((i : Int) + 1) (by omega) (by omega), wr _ (by omega) (by omega)]
        unfold plainB
        rw [if_neg (by omega)]
    rcases kindB_or l[i] with c | c
    · refine .step (fun m => (key m).trans (if_pos c)) ?_
      exact back_row K0 h1 hl (by simp; omega) (hr _ (List.getElem_mem h1)) c l[i].2.1.length 0 (by omega) ih2
    · exact .step (fun m => (key m).trans (if_neg (by omega))) ih2

theorem plain_len : ∀ (l : List Ans) (most n : Int), hugeR most n l = false → n ≤ most → (∀ a ∈ l, okW a.2.1 ∧ okW a.2.2) → (∀ a ∈ l, (a.2.1.length : Int) ≤ most - n) ∧ (showS (l.map plainB)).length ≤ 2 * l.length + 22 * (most - n).toNat
  | [], most, n, _, _, _ => by simp [showS]
  | x :: l, most, n, h, hn, hr => by
    simp only [hugeR] at h
    split at h
    · cases h
    · split at h
      · cases h
      · obtain ⟨h1, h2⟩ := plain_len l most _ h (by omega) fun a ha => hr a (by simp [ha])
        have f1 : (showA (plainB x)).length ≤ 2 + 22 * x.2.1.length := by
          have f := flatN_len (x.2.1.map outB) fun y hy => by
            obtain ⟨z, _, rfl⟩ := List.mem_map.1 hy
            exact (outB_small z).inI
          rw [List.length_map] at f
          unfold plainB
          rcases kindB_or x with c | c
          · rw [if_pos c]
            unfold showA
            rw [if_pos (by rw [c]; rfl)]
            simp
            omega
          · rw [if_neg (by omega)]
            unfold showA
            rw [if_neg (by rw [c]; decide), if_pos (by rw [c]; rfl)]
            simp
        rw [List.map_cons, showS_cons, List.length_append, List.length_cons]
        refine ⟨fun a ha => ?_, by omega⟩
        rcases List.mem_cons.1 ha with rfl | ha
        · omega
        · have := h1 a ha
          omega

theorem ok_tutorlaw10_TeachBack {R : Type} (b : List Int) (l : List (Int × (List Int × List Int))) (K0 : Bool → Option R) {r : R} (h : l_tutorlaw10_TeachBack b l K0 = some r) : ∃ fuel, e_tutorlaw10_TeachBack (run_tutorlaw10_TeachBack K0 fuel).1 (run_tutorlaw10_TeachBack K0 fuel).2 K0 b l = some r := by
  unfold l_tutorlaw10_TeachBack at h
  rcases bi_some h with ⟨hd, h⟩ | ⟨_, h⟩
  · obtain ⟨hs, hr⟩ := of_decide_eq_true hd
    rw [← h]
    by_cases c1 : (b.length : Int) > 20000
    · exact ⟨0, by unfold e_tutorlaw10_TeachBack; rw [br_pos c1, live10]⟩
    · cases c2 : hugeS l 4000 with
      | true => exact ⟨0, by unfold e_tutorlaw10_TeachBack; rw [br_neg c1, huge_eq (by omega), c2, br_tt, live10]⟩
      | false =>
        have hl : (l.length : Int) ≤ 4000 ∧ hugeR 4000 0 l = false := by
          unfold hugeS at c2
          split at c2
          · cases c2
          · exact ⟨by omega, c2⟩
        obtain ⟨h1, h2⟩ := plain_len l 4000 0 hl.2 (by omega) hr
        have hll : l.length ≤ 4000 := by omega
        obtain ⟨n, hn⟩ := (back_run K0 hll (fun a ha => by have := h1 a ha; omega) l.length 0 (by omega)).get
        rw [backEnd_eq K0 l (by omega) (fun a ha => by have := h1 a ha; omega) (by omega)] at hn
        have hn : (run_tutorlaw10_TeachBack K0 n).1 l 0 [] = K0 true := hn
        refine ⟨n, ?_⟩
        unfold e_tutorlaw10_TeachBack
        rw [br_neg c1, huge_eq (by omega), c2, br_ff, parse_eq hs]
        unfold l_tutorlaw10_num
        try dsimp only
        by_cases c3 : (parseS b).2.1 = 0
        · rw [br_eq c3]
          have c3' := c3
          unfold parseS at c3'
          rw [if_neg (by omega)] at c3'
          obtain ⟨bs, k1, k2, k3, k4⟩ := parse_there (b.length + 1) b [] 0 (parseS b).1 (parseS b).2.2 (by
            unfold parseS
            rw [if_neg (by omega), ← c3'])
          rw [List.nil_append] at k1
          have hge := showS_ge bs k4
          have ho : showOk (parseS b).1 := by
            rw [k1]
            rw [k2] at c1
            exact ⟨by unfold short; omega, fun a ha => plain_okL (k4 a ha), by omega⟩
          rw [br_ne' (by omega)]
          unfold l_teach_Show
          rw [br_pos ho]
          try dsimp only
          rw [k1, ← k2, sameB_eq]
          try dsimp only
          rw [show (!true) = false from rfl, br_ff]
          exact hn
        · rw [br_eq' c3]
          exact hn
  · cases h

theorem law_tutorlaw10_TeachBack {R : Type} (b : List Int) (l : List (Int × (List Int × List Int))) (K0 : Bool → Option R) (h0 : b.length ≤ 140737488351232 ∧ ∀ x ∈ b, (Lit.int .u8 x).wf = true) (h1 : l.length ≤ 140737488351232 ∧ ∀ a ∈ l, inI a.1 ∧ okW a.2.1 ∧ okW a.2.2) : l_tutorlaw10_TeachBack b l K0 = K0 true := by
  unfold l_tutorlaw10_TeachBack
  exact br_pos ⟨by unfold short; omega, fun a ha => (h1.2 a ha).2⟩

end
end Go.Ev
