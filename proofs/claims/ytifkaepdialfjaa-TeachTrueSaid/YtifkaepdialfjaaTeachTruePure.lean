/- Functions of the program, as trees of tests over numbers and lists; no program in sight. -/
import Derived.Test.YtifkaepdialfjaaEvBfs2
namespace Go.Ev
noncomputable section
set_option linter.unusedVariables false
set_option linter.unusedSimpArgs false
set_option maxRecDepth 100000
set_option maxHeartbeats 4000000

/-- tutor/tutorref03.Big -/
def l_tutorref03_Big {R : Type} (m : Int) (m_1 : Int) (m_2 : Int) (m_3 : Int) (m_4 : List Int) (m_5 : List Int) (states : Int) (K0 : Bool → Option R) : Option R :=
  bi (decide (m_3 > states))
   (K0 true)
   (bi (decide ((m_4.length : Int) > 70000))
    (K0 true)
    (K0 (decide ((m_5.length : Int) > 70000))))

theorem big_cases {R : Type} (k K O N : Int) (nx ou : List Int) (states : Int) (K0 : Bool → Option R) :
    (l_tutorref03_Big k K O N nx ou states K0 = K0 true) ∨ (N ≤ states ∧ nx.length ≤ 70000 ∧ ou.length ≤ 70000 ∧ l_tutorref03_Big k K O N nx ou states K0 = K0 false) := by
  unfold l_tutorref03_Big
  by_cases h1 : N > states
  · exact .inl (by rw [br_pos h1])
  rw [br_neg h1]
  by_cases h2 : (nx.length : Int) > 70000
  · exact .inl (by rw [br_pos h2])
  rw [br_neg h2]
  by_cases h3 : (ou.length : Int) > 70000
  · exact .inl (by rw [decide_eq_true h3])
  · exact .inr ⟨by omega, by omega, by omega, by rw [decide_eq_false h3]⟩

/-- tutor/text.Number -/
def s_text_Number_4 {R : Type} (g41_4 : (List Int) → Int → Int → Int → Option R) (K0 : Int → Int → Int → Option R) (b : List Int) (vat : Int) (n : Int) (i : Int) : Option R :=
  bi (decide (i < (b.length : Int)))
   (bi (decide (0 ≤ i ∧ i < ((b.length : Nat) : Int)))
    (bi (decide ((b.getD i.toNat 0) ≥ 48))
     (bi (decide (0 ≤ i ∧ i < ((b.length : Nat) : Int)))
      (bi (decide ((b.getD i.toNat 0) ≤ 57))
       (bi ((IntKind.i64.wrap (i - vat)) == 4)
        (K0 0 i 6)
        (bi ((IntKind.i64.wrap (i - vat)) == 1)
         (bi (decide (0 ≤ vat ∧ vat < ((b.length : Nat) : Int)))
          (bi ((b.getD vat.toNat 0) == 48)
           (K0 0 i 6)
           (bi (decide (0 ≤ i ∧ i < ((b.length : Nat) : Int)))
            (g41_4 b vat (IntKind.i64.wrap ((IntKind.i64.wrap (10 * n)) + (IntKind.i64.wrap (IntKind.u8.wrap ((b.getD i.toNat 0) - 48))))) (IntKind.i64.wrap (i + 1)))
            none))
          none)
         (bi (decide (0 ≤ i ∧ i < ((b.length : Nat) : Int)))
          (g41_4 b vat (IntKind.i64.wrap ((IntKind.i64.wrap (10 * n)) + (IntKind.i64.wrap (IntKind.u8.wrap ((b.getD i.toNat 0) - 48))))) (IntKind.i64.wrap (i + 1)))
          none)))
       (bi (i == vat)
        (K0 0 vat 6)
        (K0 n i 0)))
      none)
     (bi (i == vat)
      (K0 0 vat 6)
      (K0 n i 0)))
    none)
   (bi (i == vat)
    (K0 0 vat 6)
    (K0 n i 0))

/-- tutor/text.Number -/
def e_text_Number {R : Type} (g41_4 : (List Int) → Int → Int → Int → Option R) (K0 : Int → Int → Int → Option R) (b : List Int) (vat : Int) : Option R :=
  bi (decide (vat < 0))
   (K0 0 0 1)
   (bi (decide (vat > (b.length : Int)))
    (K0 0 0 1)
    (g41_4 b vat 0 vat))

def run_text_Number {R : Type} (K0 : Int → Int → Int → Option R) : Nat → (List Int) → Int → Int → Int → Option R
  | 0 => fun _ _ _ _ => none
  | n + 1 => s_text_Number_4 (run_text_Number K0 n) K0

def l_text_Number {R : Type} (b : List Int) (vat : Int) (K0 : Int → Int → Int → Option R) : Option R := e_text_Number (run_text_Number K0 (b.length + 2)) K0 b vat

theorem ok_text_Number {R : Type} (b : List Int) (vat : Int) (K0 : Int → Int → Int → Option R) {r : R} (h : l_text_Number b vat K0 = some r) : ∃ fuel, e_text_Number (run_text_Number K0 fuel) K0 b vat = some r := ⟨_, h⟩

/-- tutor/teach.numbers -/
def s_teach_numbers_1 {R : Type} (g29_1 : (List Int) → Int → (List Int) → Option R) (K0 : Int → Int → (List Int) → Option R) (b : List Int) (vat : Int) (o0 : List Int) : Option R :=
  bi (vat == (b.length : Int))
   (K0 6 vat ([] : List Int))
   (bi (decide (0 ≤ vat ∧ vat < ((b.length : Nat) : Int)))
    (bi ((b.getD vat.toNat 0) == 10)
     (K0 0 (IntKind.i64.wrap (vat + 1)) o0)
     (bi (decide (0 ≤ vat ∧ vat < ((b.length : Nat) : Int)))
      (bi ((b.getD vat.toNat 0) != 32)
       (K0 6 vat ([] : List Int))
       (bi ((o0.length : Int) == 4096)
        (K0 2 vat ([] : List Int))
        (l_text_Number b (IntKind.i64.wrap (vat + 1))
         (fun r1 r2 r3 =>
          bi (r3 != 0)
           (K0 r3 r2 ([] : List Int))
           (bi (decide ((o0.length + [r1].length) * 8 ≤ lim))
            (g29_1 b r2 (o0 ++ [r1]))
            none)))))
      none))
    none)

/-- tutor/teach.numbers -/
def e_teach_numbers {R : Type} (g29_1 : (List Int) → Int → (List Int) → Option R) (K0 : Int → Int → (List Int) → Option R) (b : List Int) (vat : Int) : Option R :=
  g29_1 b vat ([] : List Int)

def run_teach_numbers {R : Type} (K0 : Int → Int → (List Int) → Option R) : Nat → (List Int) → Int → (List Int) → Option R
  | 0 => fun _ _ _ => none
  | n + 1 => s_teach_numbers_1 (run_teach_numbers K0 n) K0

def l_teach_numbers {R : Type} (b : List Int) (vat : Int) (K0 : Int → Int → List Int → Option R) : Option R := e_teach_numbers (run_teach_numbers K0 (b.length + 2)) K0 b vat

theorem ok_teach_numbers {R : Type} (b : List Int) (vat : Int) (K0 : Int → Int → List Int → Option R) {r : R} (h : l_teach_numbers b vat K0 = some r) : ∃ fuel, e_teach_numbers (run_teach_numbers K0 fuel) K0 b vat = some r := ⟨_, h⟩

/-- tutor/teach.Parse -/
def s_teach_Parse_3 {R : Type} (g18_3 : (List Int) → Int → (List (Int × (List Int × List Int))) → Option R) (K0 : Int → Int → (List (Int × (List Int × List Int))) → Option R) (b : List Int) (vat : Int) (o0 : List (Int × (List Int × List Int))) : Option R :=
  bi (decide (vat < (b.length : Int)))
   (bi ((o0.length : Int) == 65536)
    (K0 3 vat ([] : List (Int × (List Int × List Int))))
    (bi (decide (0 ≤ vat ∧ vat < ((b.length : Nat) : Int)))
     (bi ((b.getD vat.toNat 0) == 111)
      (l_teach_numbers b (IntKind.i64.wrap (vat + 1))
       (fun r1 r2 r3 =>
        bi (r1 != 0)
         (K0 r1 r2 ([] : List (Int × (List Int × List Int))))
         (bi (decide ((o0.length + [(1, (r3, ([] : List Int)))].length) * 56 ≤ lim))
          (g18_3 b r2 (o0 ++ [(1, (r3, ([] : List Int)))]))
          none)))
      (bi ((b.getD vat.toNat 0) == 121)
       (bi (decide ((IntKind.i64.wrap (vat + 1)) < (b.length : Int)))
        (bi (decide (0 ≤ (IntKind.i64.wrap (vat + 1)) ∧ (IntKind.i64.wrap (vat + 1)) < ((b.length : Nat) : Int)))
         (bi ((b.getD ((IntKind.i64.wrap (vat + 1)).toNat) 0) != 10)
          (K0 6 (IntKind.i64.wrap (vat + 1)) ([] : List (Int × (List Int × List Int))))
          (l_teach_numbers b (IntKind.i64.wrap (vat + 1))
           (fun r4 r5 r6 =>
            bi (r4 != 0)
             (K0 r4 r5 ([] : List (Int × (List Int × List Int))))
             (bi (decide ((o0.length + [(2, (([] : List Int), r6))].length) * 56 ≤ lim))
              (g18_3 b r5 (o0 ++ [(2, (([] : List Int), r6))]))
              none))))
         none)
        (l_teach_numbers b (IntKind.i64.wrap (vat + 1))
         (fun r7 r8 r9 =>
          bi (r7 != 0)
           (K0 r7 r8 ([] : List (Int × (List Int × List Int))))
           (bi (decide ((o0.length + [(2, (([] : List Int), r9))].length) * 56 ≤ lim))
            (g18_3 b r8 (o0 ++ [(2, (([] : List Int), r9))]))
            none))))
       (bi ((b.getD vat.toNat 0) == 110)
        (l_teach_numbers b (IntKind.i64.wrap (vat + 1))
         (fun r10 r11 r12 =>
          bi (r10 != 0)
           (K0 r10 r11 ([] : List (Int × (List Int × List Int))))
           (bi (decide ((o0.length + [(3, (([] : List Int), r12))].length) * 56 ≤ lim))
            (g18_3 b r11 (o0 ++ [(3, (([] : List Int), r12))]))
            none)))
        (K0 6 vat ([] : List (Int × (List Int × List Int)))))))
     none))
   (K0 0 (b.length : Int) o0)

/-- tutor/teach.Parse -/
def e_teach_Parse {R : Type} (g18_3 : (List Int) → Int → (List (Int × (List Int × List Int))) → Option R) (K0 : Int → Int → (List (Int × (List Int × List Int))) → Option R) (b : List Int) : Option R :=
  bi (decide ((b.length : Int) > 16777216))
   (K0 2 0 ([] : List (Int × (List Int × List Int))))
   (g18_3 b 0 ([] : List (Int × (List Int × List Int))))

def run_teach_Parse {R : Type} (K0 : Int → Int → (List (Int × (List Int × List Int))) → Option R) : Nat → (List Int) → Int → (List (Int × (List Int × List Int))) → Option R
  | 0 => fun _ _ _ => none
  | n + 1 => s_teach_Parse_3 (run_teach_Parse K0 n) K0

def l_teach_Parse {R : Type} (b : List Int) (K0 : Int → Int → (List (Int × (List Int × List Int))) → Option R) : Option R := e_teach_Parse (run_teach_Parse K0 (b.length + 2)) K0 b

theorem ok_teach_Parse {R : Type} (b : List Int) (K0 : Int → Int → (List (Int × (List Int × List Int))) → Option R) {r : R} (h : l_teach_Parse b K0 = some r) : ∃ fuel, e_teach_Parse (run_teach_Parse K0 fuel) K0 b = some r := ⟨_, h⟩

/-- tutor/tutorlaw10.num -/
def l_tutorlaw10_num {R : Type} (e : Int) (K0 : Int → Option R) : Option R :=
  K0 e

/-- tutor/tutorref01.Same -/
def s_tutorref01_Same_4 {R : Type} (g17_4 : (List Int) → (List Int) → Int → Option R) (K0 : Bool → Option R) (a : List Int) (b : List Int) (i : Int) : Option R :=
  bi (decide (i < (a.length : Int)))
   (bi (decide (0 ≤ i ∧ i < ((a.length : Nat) : Int)))
    (bi (decide (0 ≤ i ∧ i < ((b.length : Nat) : Int)))
     (bi ((a.getD i.toNat 0) != (b.getD i.toNat 0))
      (K0 false)
      (g17_4 a b (IntKind.i64.wrap (i + 1))))
     none)
    none)
   (K0 true)

/-- tutor/tutorref01.Same -/
def e_tutorref01_Same {R : Type} (g17_4 : (List Int) → (List Int) → Int → Option R) (K0 : Bool → Option R) (a : List Int) (b : List Int) : Option R :=
  bi ((a.length : Int) != (b.length : Int))
   (K0 false)
   (g17_4 a b 0)

def run_tutorref01_Same {R : Type} (K0 : Bool → Option R) : Nat → (List Int) → (List Int) → Int → Option R
  | 0 => fun _ _ _ => none
  | n + 1 => s_tutorref01_Same_4 (run_tutorref01_Same K0 n) K0

def l_tutorref01_Same {R : Type} (a : List Int) (b : List Int) (K0 : Bool → Option R) : Option R := bi (decide (short a)) (K0 (decide (a = b))) none

theorem findP_zip {a b : List Int} (hl : a.length = b.length) : findP (fun i => a.getD i 0 != b.getD i 0) (List.range a.length) = none ↔ a = b := by
  rw [findP_none]
  constructor
  · intro h
    refine List.ext_getElem hl fun i h1 h2 => ?_
    have := h i (by simpa using h1)
    rw [getD_of 0 h1, getD_of 0 h2] at this
    simpa using this
  · rintro rfl i _
    simp

theorem ok_tutorref01_Same {R : Type} (a : List Int) (b : List Int) (K0 : Bool → Option R) {r : R} (h : l_tutorref01_Same a b K0 = some r) : ∃ fuel, e_tutorref01_Same (run_tutorref01_Same K0 fuel) K0 a b = some r := by
  unfold l_tutorref01_Same at h
  rcases bi_some h with ⟨hs, h⟩ | ⟨_, h⟩
  · have hs : a.length < 4611686018427387904 := of_decide_eq_true hs
    refine ⟨a.length + 1, ?_⟩
    rw [← h]
    unfold e_tutorref01_Same
    by_cases hl : a.length = b.length
    · rw [br_ne' (by omega)]
      have key := scan_all (F := fun m i => run_tutorref01_Same K0 m a b (i : Int)) (fun i => a.getD i 0 != b.getD i 0) (l := List.range a.length) (A := fun i => K0 false) (B := K0 true)
        (fun m => by
          show s_tutorref01_Same_4 _ _ _ _ _ = _
          unfold s_tutorref01_Same_4
          rw [List.length_range, br_neg (by omega)])
        (fun m i hi => by
          rw [List.length_range] at hi
          show s_tutorref01_Same_4 _ _ _ _ _ = _
          unfold s_tutorref01_Same_4
          rw [br_pos (by omega), br_pos (by omega), br_pos (by omega), br_if, Int.toNat_natCast, wr _ (by omega) (by omega), List.getElem_range]
          rfl)
      rw [List.length_range] at key
      refine key.trans ?_
      by_cases e : a = b
      · rw [(findP_zip hl).2 e]
        simp [e]
      · have : findP (fun i => a.getD i 0 != b.getD i 0) (List.range a.length) ≠ none := fun h => e ((findP_zip hl).1 h)
        cases hf : findP (fun i => a.getD i 0 != b.getD i 0) (List.range a.length) with
        | none => exact absurd hf this
        | some j => simp [e]
    · rw [br_ne (by omega)]
      have e : a ≠ b := fun e => hl (by rw [e])
      simp [e]
  · cases h

theorem same_eq {R : Type} {a b : List Int} (h : short a) (K0 : Bool → Option R) : l_tutorref01_Same a b K0 = K0 (decide (a = b)) := by
  unfold l_tutorref01_Same
  rw [br_pos h]

/-- tutor/teach.of -/
def l_teach_of {R : Type} (a : Int) (a_1 : List Int) (a_2 : List Int) (K0 : (List Int) → Option R) (K1 : Option R) (K2 : (List Int) → Option R) (K3 : Option R) : Option R :=
  bi (a == 1)
   (K0 a_1)
   (bi (a == 2)
    K1
    (bi (a == 3)
     (K2 a_2)
     K3))

/-- tutor/teach.member$1 -/
def l_teach_member_1 {R : Type} (o : Int) (o0 : Int) (K0 : Bool → Int → Option R) : Option R :=
  bi (decide (o < 0))
   (K0 true o0)
   (K0 (decide (o ≥ o0)) o0)

/-- slices.IndexFunc[[]int,int] -/
def s_slices_IndexFunc_int_int_f31_2 {R : Type} (g42_2 : (List Int) → Int → Int → Int → Option R) (K0 : Int → Int → Option R) (s : List Int) (x7 : Int) (x8 : Int) (o0 : Int) : Option R :=
  bi (decide (x8 < x7))
   (bi (decide (0 ≤ x8 ∧ x8 < ((s.length : Nat) : Int)))
    (l_teach_member_1 (s.getD x8.toNat 0) o0
     (fun r1 r2 =>
      bi r1
       (K0 x8 r2)
       (g42_2 s x7 (IntKind.i64.wrap (x8 + 1)) r2)))
    none)
   (K0 (-1) o0)

/-- slices.IndexFunc[[]int,int] -/
def e_slices_IndexFunc_int_int_f31 {R : Type} (g42_2 : (List Int) → Int → Int → Int → Option R) (K0 : Int → Int → Option R) (s : List Int) (o0 : Int) : Option R :=
  g42_2 s (s.length : Int) 0 o0

def run_slices_IndexFunc_int_int_f31 {R : Type} (K0 : Int → Int → Option R) : Nat → (List Int) → Int → Int → Int → Option R
  | 0 => fun _ _ _ _ => none
  | n + 1 => s_slices_IndexFunc_int_int_f31_2 (run_slices_IndexFunc_int_int_f31 K0 n) K0

def l_slices_IndexFunc_int_int_f31 {R : Type} (s : List Int) (o0 : Int) (K0 : Int → Int → Option R) : Option R :=
  bi (decide (short s)) (match findP (outside o0) s with | some i => K0 (i : Int) o0 | none => K0 (-1) o0) none

theorem ok_slices_IndexFunc_int_int_f31 {R : Type} (s : List Int) (o0 : Int) (K0 : Int → Int → Option R) {r : R} (h : l_slices_IndexFunc_int_int_f31 s o0 K0 = some r) : ∃ fuel, e_slices_IndexFunc_int_int_f31 (run_slices_IndexFunc_int_int_f31 K0 fuel) K0 s o0 = some r := by
  unfold l_slices_IndexFunc_int_int_f31 at h
  rcases bi_some h with ⟨hs, h⟩ | ⟨_, h⟩
  · have hs : s.length < 4611686018427387904 := of_decide_eq_true hs
    refine ⟨s.length + 1, ?_⟩
    rw [← h]
    unfold e_slices_IndexFunc_int_int_f31
    exact scan_all (F := fun m i => run_slices_IndexFunc_int_int_f31 K0 m s (s.length : Int) (i : Int) o0) (outside o0) (l := s) (A := fun i => K0 (i : Int) o0) (B := K0 (-1) o0)
      (fun m => by
        dsimp only [run_slices_IndexFunc_int_int_f31]
        unfold s_slices_IndexFunc_int_int_f31_2
        rw [br_neg (by omega)])
      (fun m i hi => by
        dsimp only [run_slices_IndexFunc_int_int_f31]
        unfold s_slices_IndexFunc_int_int_f31_2 l_teach_member_1
        rw [br_pos (by omega), br_pos (by omega), Int.toNat_natCast, getD_of 0 hi, wr _ (by omega) (by omega)]
        unfold outside
        cases decide (s[i] < 0) <;> cases decide (s[i] ≥ o0) <;> rfl)
  · cases h


/-- slices.ContainsFunc[[]int,int] -/
def l_slices_ContainsFunc_int_int_f31 {R : Type} (s : List Int) (o0 : Int) (K0 : Bool → Int → Option R) : Option R :=
  l_slices_IndexFunc_int_int_f31 s o0
   (fun r1 r2 =>
    K0 (decide (r1 ≥ 0)) r2)

theorem contains_eq {R : Type} {s : List Int} (h : short s) (o0 : Int) (K0 : Bool → Int → Option R) : l_slices_ContainsFunc_int_int_f31 s o0 K0 = K0 (!decide (findP (outside o0) s = none)) o0 := by
  unfold l_slices_ContainsFunc_int_int_f31 l_slices_IndexFunc_int_int_f31
  rw [br_pos h]
  cases hf : findP (outside o0) s with
  | none => rfl
  | some i =>
    have e1 : decide ((i : Int) ≥ 0) = true := decide_eq_true (by omega)
    simp only [e1]
    rfl

/-- tutor/teach.member -/
def l_teach_member {R : Type} (q : Int) (q_1 : List Int) (q_2 : Int) (q_3 : Int) (q_4 : Int) (q_5 : Int) (q_6 : List Int) (q_7 : List Int) (out : List Int) (K0 : Bool → Option R) : Option R :=
  bi (q_2 == 1)
   (bi ((out.length : Int) == 1)
    (l_slices_ContainsFunc_int_int_f31 out 2
     (fun r1 r2 =>
      K0 (!r1)))
    (K0 false))
   (bi (q_2 == 2)
    (bi ((out.length : Int) == (q_1.length : Int))
     (l_slices_ContainsFunc_int_int_f31 out q_4
      (fun r3 r4 =>
       K0 (!r3)))
     (K0 false))
    (K0 false))

/-- tutor/word.alphabet -/
def l_word_alphabet {R : Type} (k : Int) (K0 : Bool → Option R) : Option R :=
  bi (decide (k ≥ 1))
   (K0 (decide (k ≤ 64)))
   (K0 false)

theorem alpha_eq {R : Type} (k : Int) (K0 : Bool → Option R) : l_word_alphabet k K0 = K0 (decide (1 ≤ k ∧ k ≤ 64)) := by
  unfold l_word_alphabet
  by_cases h : k ≥ 1
  · rw [br_pos h]
    congr 1
    rw [decide_eq_decide]
    omega
  · rw [br_neg h, decide_eq_false (by omega)]

/-- tutor/word.Check -/
def s_word_Check_6 {R : Type} (g21_6 : (List Int) → Int → Int → Int → Option R) (K0 : Int → Int → Option R) (w : List Int) (k : Int) (x16 : Int) (x17 : Int) : Option R :=
  bi (decide (x17 < x16))
   (bi (decide (0 ≤ x17 ∧ x17 < ((w.length : Nat) : Int)))
    (bi (decide ((w.getD x17.toNat 0) < 0))
     (K0 x17 10)
     (bi (decide (0 ≤ x17 ∧ x17 < ((w.length : Nat) : Int)))
      (bi (decide ((w.getD x17.toNat 0) ≥ k))
       (K0 x17 10)
       (g21_6 w k x16 (IntKind.i64.wrap (x17 + 1))))
      none))
    none)
   (K0 0 0)

/-- tutor/word.Check -/
def e_word_Check {R : Type} (g21_6 : (List Int) → Int → Int → Int → Option R) (K0 : Int → Int → Option R) (w : List Int) (k : Int) : Option R :=
  l_word_alphabet k
   (fun r1 =>
    bi (!r1)
     (K0 0 1)
     (bi (decide ((w.length : Int) > 4096))
      (K0 0 2)
      (g21_6 w k (w.length : Int) 0)))

def run_word_Check {R : Type} (K0 : Int → Int → Option R) : Nat → (List Int) → Int → Int → Int → Option R
  | 0 => fun _ _ _ _ => none
  | n + 1 => s_word_Check_6 (run_word_Check K0 n) K0

def l_word_Check {R : Type} (w : List Int) (k : Int) (K0 : Int → Int → Option R) : Option R := K0 (wordS k w).1 (wordS k w).2

theorem ok_word_Check {R : Type} (w : List Int) (k : Int) (K0 : Int → Int → Option R) {r : R} (h : l_word_Check w k K0 = some r) : ∃ fuel, e_word_Check (run_word_Check K0 fuel) K0 w k = some r := by
  refine ⟨w.length + 1, ?_⟩
  rw [← h]
  unfold l_word_Check e_word_Check l_word_alphabet wordS
  by_cases h1 : 1 ≤ k
  · rw [br_pos (by omega)]
    by_cases h2 : k ≤ 64
    · rw [decide_eq_true h2, if_neg (by omega)]
      show bi false _ _ = _
      rw [br_ff]
      by_cases h3 : w.length > 4096
      · rw [br_pos (by omega), if_pos h3]
      · rw [br_neg (by omega), if_neg h3]
        have key := scan_all (F := fun m i => run_word_Check K0 m w k (w.length : Int) (i : Int)) (outside k) (l := w) (A := fun i => K0 i 10) (B := K0 0 0)
          (fun m => by
            show s_word_Check_6 _ _ _ _ _ _ = _
            unfold s_word_Check_6
            rw [br_neg (by omega)])
          (fun m i hi => by
            show s_word_Check_6 _ _ _ _ _ _ = _
            unfold s_word_Check_6
            rw [br_pos (by omega), br_pos (by omega), br_pos (p := 0 ≤ (i : Int) ∧ (i : Int) < ((w.length : Nat) : Int)) (by omega), Int.toNat_natCast, getD_of 0 hi, wr _ (by omega) (by omega)]
            unfold outside
            cases decide (w[i] < 0) <;> cases decide (w[i] ≥ k) <;> rfl)
        refine key.trans ?_
        cases findP (outside k) w <;> rfl
    · rw [decide_eq_false h2, if_pos (by omega)]
      rfl
  · rw [br_neg (by omega), if_pos (by omega)]
    rfl

/-- tutor/teach.Check -/
def l_teach_Check {R : Type} (q : Int) (q_1 : List Int) (q_2 : Int) (q_3 : Int) (q_4 : Int) (q_5 : Int) (q_6 : List Int) (q_7 : List Int) (a : Int) (a_1 : List Int) (a_2 : List Int) (K0 : Int → Option R) : Option R :=
  bi (q != 1)
   (bi (q != 2)
    (K0 30)
    (l_teach_of a a_1 a_2
     (fun r1 =>
      bi (q == 1)
       (bi ((a_2.length : Int) == 0)
        (l_teach_member q q_1 q_2 q_3 q_4 q_5 q_6 q_7 r1
         (fun r2 =>
          bi (!r2)
           (K0 100)
           (K0 0)))
        (K0 100))
       (K0 100))
     (bi (q == 2)
      (bi (!((IntKind.i64.wrap ((a_2.length : Int) + (a_1.length : Int))) == 0))
       (K0 100)
       (K0 0))
      (K0 100))
     (fun r3 =>
      l_word_Check r3 q_3
       (fun r4 r5 =>
        bi (q == 2)
         (bi ((a_1.length : Int) == 0)
          (bi (!(r5 == 0))
           (K0 100)
           (K0 0))
          (K0 100))
         (K0 100)))
     (K0 100)))
   (l_teach_of a a_1 a_2
    (fun r6 =>
     bi (q == 1)
      (bi ((a_2.length : Int) == 0)
       (l_teach_member q q_1 q_2 q_3 q_4 q_5 q_6 q_7 r6
        (fun r7 =>
         bi (!r7)
          (K0 100)
          (K0 0)))
       (K0 100))
      (K0 100))
    (bi (q == 2)
     (bi (!((IntKind.i64.wrap ((a_2.length : Int) + (a_1.length : Int))) == 0))
      (K0 100)
      (K0 0))
     (K0 100))
    (fun r8 =>
     l_word_Check r8 q_3
      (fun r9 r10 =>
       bi (q == 2)
        (bi ((a_1.length : Int) == 0)
         (bi (!(r10 == 0))
          (K0 100)
          (K0 0))
         (K0 100))
        (K0 100)))
    (K0 100))

def allIn (n : Int) (l : List Int) : Prop := findP (outside n) l = none
instance (n : Int) (l : List Int) : Decidable (allIn n l) := by unfold allIn; infer_instance

/-- May this be answered? -/
def teachC (q : Int) (q1 : List Int) (q2 q3 q4 : Int) (a : Int) (a1 a2 : List Int) : Int :=
  if q ≠ 1 ∧ q ≠ 2 then 30
  else if q = 2 then (if a1.length = 0 ∧ ((a = 2 ∧ a2.length = 0) ∨ (a = 3 ∧ (wordS q3 a2).2 = 0)) then 0 else 100)
  else if a = 1 ∧ a2.length = 0 ∧ ((q2 = 1 ∧ a1.length = 1 ∧ allIn 2 a1) ∨ (q2 = 2 ∧ a1.length = q1.length ∧ allIn q4 a1)) then 0 else 100

theorem tcheck_eq {R : Type} {q : Int} {q_1 : List Int} {q_2 q_3 q_4 q_5 : Int} {q_6 q_7 : List Int} {a : Int} {a_1 a_2 : List Int} (h : a_1.length ≤ 17592186044000) (h2 : a_2.length ≤ 17592186044000) (K0 : Int → Option R) :
    l_teach_Check q q_1 q_2 q_3 q_4 q_5 q_6 q_7 a a_1 a_2 K0 = K0 (teachC q q_1 q_2 q_3 q_4 a a_1 a_2) := by
  unfold l_teach_Check l_teach_of l_teach_member l_word_Check teachC
  have hs : short a_1 := by unfold short; omega
  simp only [contains_eq hs]
  rw [wr _ (by omega) (by omega)]
  simp only [br_if, bne_iff_ne, beq_iff_eq, decide_eq_true_eq, ne_eq, Bool.not_not]
  generalize (wordS q_3 a_2).2 = c
  have e0 : ((a_2.length : Int) + (a_1.length : Int) = 0) = (a_2.length = 0 ∧ a_1.length = 0) := propext (by omega)
  have e1 : ((a_1.length : Int) = 0) = (a_1.length = 0) := propext (by omega)
  have e2 : ((a_2.length : Int) = 0) = (a_2.length = 0) := propext (by omega)
  have e4 : ((a_1.length : Int) = 1) = (a_1.length = 1) := propext (by omega)
  have e5 : ((a_1.length : Int) = (q_1.length : Int)) = (a_1.length = q_1.length) := propext (by omega)
  unfold allIn
  simp only [Bool.not_eq_true', beq_eq_false_iff_ne, ne_eq, e0, e1, e2, e4, e5]
  by_cases h1 : q = 1
  · subst h1
    by_cases h2 : a = 1 <;> by_cases h22 : a = 2 <;> by_cases h3 : a_2.length = 0 <;> by_cases h4 : q_2 = 1 <;> by_cases h5 : q_2 = 2 <;> by_cases h6 : a_1.length = 1 <;> by_cases h7 : a_1.length = q_1.length <;> simp_all <;> (try (split <;> rfl))
  · by_cases h2 : q = 2
    · subst h2
      by_cases h2 : a_1.length = 0 <;> by_cases h3 : a_2.length = 0 <;> by_cases h4 : a = 1 <;> by_cases h5 : a = 2 <;> by_cases h52 : a = 3 <;> by_cases h6 : c = 0 <;> simp_all
    · simp_all

/-- tutor/tutorlaw10.live -/
def l_tutorlaw10_live {R : Type}  (K0 : Bool → Option R) : Option R :=
  bi (decide (0 < [111, 32, 48, 32, 49, 10, 121, 10, 110, 32, 50, 10].length))
   (l_teach_Parse [111, 32, 48, 32, 49, 10, 121, 10, 110, 32, 50, 10]
    (fun r1 r2 r3 =>
     bi (decide (0 < [111, 32, 48, 49, 10].length))
      (l_teach_Parse [111, 32, 48, 49, 10]
       (fun r4 r5 r6 =>
        l_tutorlaw10_num r1
         (fun r7 =>
          bi (r7 == 0)
           (bi (r2 == 12)
            (bi ((r3.length : Int) == 3)
             (bi (decide (0 ≤ (0 : Int) ∧ (0 : Int) < ((r3.length : Nat) : Int)))
              (l_tutorref01_Same (((r3.getD 0 (0, ([], []))).2).1) [0, 1]
               (fun r8 =>
                bi r8
                 (bi (decide (0 ≤ (1 : Int) ∧ (1 : Int) < ((r3.length : Nat) : Int)))
                  (bi (((r3.getD 1 (0, ([], []))).1) == 2)
                   (bi (decide (0 ≤ (2 : Int) ∧ (2 : Int) < ((r3.length : Nat) : Int)))
                    (l_tutorref01_Same (((r3.getD 2 (0, ([], []))).2).2) [2]
                     (fun r9 =>
                      bi r9
                       (l_tutorlaw10_num r4
                        (fun r10 =>
                         bi (r10 == 6)
                          (bi (r5 == 3)
                           (l_teach_Check 1 ([] : List Int) 1 0 2 0 ([] : List Int) ([] : List Int) 1 [2] ([] : List Int)
                            (fun r11 =>
                             l_tutorlaw10_num r11
                              (fun r12 =>
                               K0 (r12 == 100))))
                           (K0 false))
                          (K0 false)))
                       (K0 false)))
                    none)
                   (K0 false))
                  none)
                 (K0 false)))
              none)
             (K0 false))
            (K0 false))
           (K0 false))))
      none))
   none

theorem live10 {R : Type} (K0 : Bool → Option R) : l_tutorlaw10_live K0 = K0 true := by kernel_rfl

/-- tutor/machine.says -/
def l_machine_says {R : Type} (m : Int) (m_1 : Int) (m_2 : Int) (m_3 : Int) (m_4 : List Int) (m_5 : List Int) (K0 : Int → Option R) : Option R :=
  bi (m == 1)
   (K0 m_3)
   (K0 (IntKind.i64.wrap (m_3 * m_1)))

/-- tutor/machine.head -/
def l_machine_head {R : Type} (m : Int) (m_1 : Int) (m_2 : Int) (m_3 : Int) (m_4 : List Int) (m_5 : List Int) (K0 : Int → Option R) : Option R :=
  bi (m != 1)
   (bi (m != 2)
    (K0 30)
    (bi (decide (m_1 < 1))
     (K0 1)
     (bi (decide (m_1 > 64))
      (K0 1)
      (bi (m == 1)
       (bi (m_2 != 2)
        (K0 33)
        (bi (decide (m_2 < 1))
         (K0 33)
         (bi (decide (m_2 > 64))
          (K0 33)
          (bi (decide (m_3 < 1))
           (K0 3)
           (bi (decide (m_3 > 1024))
            (K0 3)
            (bi ((m_4.length : Int) != (IntKind.i64.wrap (m_3 * m_1)))
             (K0 31)
             (l_machine_says m m_1 m_2 m_3 m_4 m_5
              (fun r1 =>
               bi ((m_5.length : Int) != r1)
                (K0 31)
                (K0 0)))))))))
       (bi (decide (m_2 < 1))
        (K0 33)
        (bi (decide (m_2 > 64))
         (K0 33)
         (bi (decide (m_3 < 1))
          (K0 3)
          (bi (decide (m_3 > 1024))
           (K0 3)
           (bi ((m_4.length : Int) != (IntKind.i64.wrap (m_3 * m_1)))
            (K0 31)
            (l_machine_says m m_1 m_2 m_3 m_4 m_5
             (fun r2 =>
              bi ((m_5.length : Int) != r2)
               (K0 31)
               (K0 0))))))))))))
   (bi (decide (m_1 < 1))
    (K0 1)
    (bi (decide (m_1 > 64))
     (K0 1)
     (bi (m == 1)
      (bi (m_2 != 2)
       (K0 33)
       (bi (decide (m_2 < 1))
        (K0 33)
        (bi (decide (m_2 > 64))
         (K0 33)
         (bi (decide (m_3 < 1))
          (K0 3)
          (bi (decide (m_3 > 1024))
           (K0 3)
           (bi ((m_4.length : Int) != (IntKind.i64.wrap (m_3 * m_1)))
            (K0 31)
            (l_machine_says m m_1 m_2 m_3 m_4 m_5
             (fun r3 =>
              bi ((m_5.length : Int) != r3)
               (K0 31)
               (K0 0)))))))))
      (bi (decide (m_2 < 1))
       (K0 33)
       (bi (decide (m_2 > 64))
        (K0 33)
        (bi (decide (m_3 < 1))
         (K0 3)
         (bi (decide (m_3 > 1024))
          (K0 3)
          (bi ((m_4.length : Int) != (IntKind.i64.wrap (m_3 * m_1)))
           (K0 31)
           (l_machine_says m m_1 m_2 m_3 m_4 m_5
            (fun r4 =>
             bi ((m_5.length : Int) != r4)
              (K0 31)
              (K0 0)))))))))))

theorem head_eq {R : Type} (k K O N : Int) (nx ou : List Int) (K0 : Int → Option R) : l_machine_head k K O N nx ou K0 = K0 (headS k K O N nx ou) := by
  unfold l_machine_head l_machine_says headS
  simp only [br_if, bne_iff_ne, beq_iff_eq, decide_eq_true_eq, ne_eq]
  by_cases hb : (1 ≤ N ∧ N ≤ 1024) ∧ 1 ≤ K ∧ K ≤ 64
  · have := mulK hb
    rw [wr (N * K) (by omega) (by omega)]
    repeat' (refine ite_l (fun _ => ?_) (fun _ => ?_))
    all_goals
      refine congrArg K0 ?_
      repeat' (refine ite_r (fun _ => ?_) (fun _ => ?_))
      all_goals omega
  · repeat' (refine ite_l (fun _ => ?_) (fun _ => ?_))
    all_goals
      refine congrArg K0 ?_
      repeat' (refine ite_r (fun _ => ?_) (fun _ => ?_))
      all_goals omega

/-- tutor/machine.beyond -/
def s_machine_beyond_2 {R : Type} (g34_2 : (List Int) → Int → Int → Int → Option R) (K0 : Int → Option R) (l : List Int) (n : Int) (x7 : Int) (x8 : Int) : Option R :=
  bi (decide (x8 < x7))
   (bi (decide (0 ≤ x8 ∧ x8 < ((l.length : Nat) : Int)))
    (bi (decide ((IntKind.u64.wrap (l.getD x8.toNat 0)) ≥ (IntKind.u64.wrap n)))
     (K0 x8)
     (g34_2 l n x7 (IntKind.i64.wrap (x8 + 1))))
    none)
   (K0 (-1))

/-- tutor/machine.beyond -/
def e_machine_beyond {R : Type} (g34_2 : (List Int) → Int → Int → Int → Option R) (K0 : Int → Option R) (l : List Int) (n : Int) : Option R :=
  g34_2 l n (l.length : Int) 0

def run_machine_beyond {R : Type} (K0 : Int → Option R) : Nat → (List Int) → Int → Int → Int → Option R
  | 0 => fun _ _ _ _ => none
  | n + 1 => s_machine_beyond_2 (run_machine_beyond K0 n) K0

def l_machine_beyond {R : Type} (l : List Int) (n : Int) (K0 : Int → Option R) : Option R := bi (decide (short l)) (K0 (beyondS n l)) none

theorem ok_machine_beyond {R : Type} (l : List Int) (n : Int) (K0 : Int → Option R) {r : R} (h : l_machine_beyond l n K0 = some r) : ∃ fuel, e_machine_beyond (run_machine_beyond K0 fuel) K0 l n = some r := by
  unfold l_machine_beyond at h
  rcases bi_some h with ⟨hs, h⟩ | ⟨_, h⟩
  · have hs : l.length < 4611686018427387904 := of_decide_eq_true hs
    refine ⟨l.length + 1, ?_⟩
    rw [← h]
    have key := scan_all (F := fun m i => run_machine_beyond K0 m l n (l.length : Int) (i : Int)) (bad n) (l := l) (A := fun i => K0 i) (B := K0 (-1))
      (fun m => by
        show s_machine_beyond_2 _ _ _ _ _ _ = _
        unfold s_machine_beyond_2
        rw [br_neg (by omega)])
      (fun m i hi => by
        show s_machine_beyond_2 _ _ _ _ _ _ = _
        unfold s_machine_beyond_2
        rw [br_pos (by omega), br_pos (by omega), br_if, Int.toNat_natCast, getD_of 0 hi, wr _ (by omega) (by omega)]
        rfl)
    unfold e_machine_beyond beyondS
    refine key.trans ?_
    cases findP (bad n) l <;> rfl
  · cases h

/-- tutor/machine.Check -/
def l_machine_Check {R : Type} (m : Int) (m_1 : Int) (m_2 : Int) (m_3 : Int) (m_4 : List Int) (m_5 : List Int) (K0 : Int → Int → Option R) : Option R :=
  l_machine_head m m_1 m_2 m_3 m_4 m_5
   (fun r1 =>
    bi (r1 != 0)
     (K0 0 r1)
     (l_machine_beyond m_4 m_3
      (fun r2 =>
       bi (decide (r2 ≥ 0))
        (K0 r2 32)
        (l_machine_beyond m_5 m_2
         (fun r3 =>
          bi (decide (r3 ≥ 0))
           (K0 r3 33)
           (K0 0 0))))))

theorem check_eq {R : Type} (k K O N : Int) (nx ou : List Int) (h1 : short nx) (h2 : short ou) (K0 : Int → Int → Option R) :
    l_machine_Check k K O N nx ou K0 = K0 (checkS k K O N nx ou).1 (checkS k K O N nx ou).2 := by
  unfold l_machine_Check checkS l_machine_beyond beyondS
  rw [head_eq]
  by_cases h : headS k K O N nx ou = 0
  · rw [br_ne' h, if_neg (by simpa using h), br_pos h1]
    cases hf : findP (bad N) nx with
    | some i => simp only [br_pos (show ((i : Nat) : Int) ≥ 0 by omega)]
    | none =>
      simp only [br_neg (show ¬ ((-1 : Int) ≥ 0) by omega), br_pos h2]
      cases hg : findP (bad O) ou with
      | some i => simp only [br_pos (show ((i : Nat) : Int) ≥ 0 by omega)]
      | none => simp only [br_neg (show ¬ ((-1 : Int) ≥ 0) by omega)]
  · rw [br_ne h, if_pos (by simpa using h)]

/-- tutor/machine.From -/
def s_machine_From_10 {R : Type} (g35_10 : Int → (List Int) → Int → Int → Int → Int → Int → Int → (List Int) → (List Int) → (List Int) → Option R) (K0 : Int → Int → (List Int) → Option R) (s : Int) (x42 : List Int) (x43 : Int) (x44 : Int) (o0 : Int) (o0_1 : Int) (o0_2 : Int) (o0_3 : Int) (o0_4 : List Int) (o0_5 : List Int) (o1 : List Int) : Option R :=
  bi (decide (x44 < x43))
   (bi (decide (0 ≤ x44 ∧ x44 < ((x42.length : Nat) : Int)))
    (bi (o0 == 2)
     (bi (decide (0 ≤ (IntKind.i64.wrap ((IntKind.i64.wrap (s * o0_1)) + (x42.getD x44.toNat 0))) ∧ (IntKind.i64.wrap ((IntKind.i64.wrap (s * o0_1)) + (x42.getD x44.toNat 0))) < ((o0_5.length : Nat) : Int)))
      (bi (decide ((o1.length + [o0_5.getD ((IntKind.i64.wrap ((IntKind.i64.wrap (s * o0_1)) + (x42.getD x44.toNat 0))).toNat) 0].length) * 8 ≤ lim))
       (bi (decide (0 ≤ (IntKind.i64.wrap ((IntKind.i64.wrap (s * o0_1)) + (x42.getD x44.toNat 0))) ∧ (IntKind.i64.wrap ((IntKind.i64.wrap (s * o0_1)) + (x42.getD x44.toNat 0))) < ((o0_4.length : Nat) : Int)))
        (g35_10 (o0_4.getD ((IntKind.i64.wrap ((IntKind.i64.wrap (s * o0_1)) + (x42.getD x44.toNat 0))).toNat) 0) x42 x43 (IntKind.i64.wrap (x44 + 1)) o0 o0_1 o0_2 o0_3 o0_4 o0_5 (o1 ++ [o0_5.getD ((IntKind.i64.wrap ((IntKind.i64.wrap (s * o0_1)) + (x42.getD x44.toNat 0))).toNat) 0]))
        none)
       none)
      none)
     (bi (decide (0 ≤ (IntKind.i64.wrap ((IntKind.i64.wrap (s * o0_1)) + (x42.getD x44.toNat 0))) ∧ (IntKind.i64.wrap ((IntKind.i64.wrap (s * o0_1)) + (x42.getD x44.toNat 0))) < ((o0_4.length : Nat) : Int)))
      (g35_10 (o0_4.getD ((IntKind.i64.wrap ((IntKind.i64.wrap (s * o0_1)) + (x42.getD x44.toNat 0))).toNat) 0) x42 x43 (IntKind.i64.wrap (x44 + 1)) o0 o0_1 o0_2 o0_3 o0_4 o0_5 o1)
      none))
    none)
   (bi (o0 == 1)
    (bi (decide (0 ≤ s ∧ s < ((o0_5.length : Nat) : Int)))
     (K0 s 0 [o0_5.getD s.toNat 0])
     none)
    (K0 s 0 o1))

/-- tutor/machine.From -/
def e_machine_From {R : Type} (g35_10 : Int → (List Int) → Int → Int → Int → Int → Int → Int → (List Int) → (List Int) → (List Int) → Option R) (K0 : Int → Int → (List Int) → Option R) (m : Int) (m_1 : Int) (m_2 : Int) (m_3 : Int) (m_4 : List Int) (m_5 : List Int) (s : Int) (w : List Int) : Option R :=
  l_machine_Check m m_1 m_2 m_3 m_4 m_5
   (fun r1 r2 =>
    bi (r2 != 0)
     (K0 0 r2 ([] : List Int))
     (bi (decide (s < 0))
      (K0 0 32 ([] : List Int))
      (bi (decide (s ≥ m_3))
       (K0 0 32 ([] : List Int))
       (l_word_Check w m_1
        (fun r3 r4 =>
         bi (r4 != 0)
          (K0 0 r4 ([] : List Int))
          (g35_10 s w (w.length : Int) 0 m m_1 m_2 m_3 m_4 m_5 ([] : List Int)))))))

def run_machine_From {R : Type} (K0 : Int → Int → (List Int) → Option R) : Nat → Int → (List Int) → Int → Int → Int → Int → Int → Int → (List Int) → (List Int) → (List Int) → Option R
  | 0 => fun _ _ _ _ _ _ _ _ _ _ _ => none
  | n + 1 => s_machine_From_10 (run_machine_From K0 n) K0

def l_machine_From {R : Type} (k K O N : Int) (nx ou : List Int) (s : Int) (w : List Int) (K0 : Int → Int → List Int → Option R) : Option R :=
  bi (decide (okL nx ∧ okL ou)) (K0 (fromS k K O N nx ou s w).1 (fromS k K O N nx ou s w).2.1 (fromS k K O N nx ou s w).2.2) none

theorem ok_machine_From {R : Type} (k K O N : Int) (nx ou : List Int) (s : Int) (w : List Int) (K0 : Int → Int → List Int → Option R) {r : R} (h : l_machine_From k K O N nx ou s w K0 = some r) :
    ∃ fuel, e_machine_From (run_machine_From K0 fuel) K0 k K O N nx ou s w = some r := by
  unfold l_machine_From at h
  rcases bi_some h with ⟨hs, h⟩ | ⟨_, h⟩
  · obtain ⟨h1, h2⟩ := of_decide_eq_true hs
    refine ⟨w.length + 1, ?_⟩
    rw [← h]
    unfold e_machine_From fromS
    rw [check_eq _ _ _ _ _ _ h1.1 h2.1, checkS_eq h1 h2]
    by_cases hc : (checkR k K O N nx ou).2 = 0
    · have F := checkR_fine.1 hc
      rw [br_ne' hc, if_neg (by simpa using hc)]
      by_cases hs1 : s < 0
      · rw [br_pos hs1, if_pos (.inl hs1)]
      rw [br_neg hs1]
      by_cases hs2 : s ≥ N
      · rw [br_pos hs2, if_pos (.inr hs2)]
      rw [br_neg hs2, if_neg (by omega)]
      unfold l_word_Check
      dsimp only
      by_cases hw : (wordS K w).2 = 0
      · rw [br_ne' hw, if_neg (by simpa using hw)]
        obtain ⟨_, hwl, hwx⟩ := wordS_zero.1 hw
        have hK := F.fK
        have hN := F.fN
        have hNK := mulK ⟨hN, hK⟩
        have hnx := F.fnx
        refine (fold_all (F := fun m i (t : Int × List Int) => run_machine_From K0 m t.1 w (w.length : Int) (i : Int) k K O N nx ou t.2) (f := goS k K nx ou) (l := w)
          (B := fun t => K0 t.1 0 (if k = 1 then [ou.getD t.1.toNat 0] else t.2)) (fun i t => (0 ≤ t.1 ∧ t.1 < N) ∧ t.2.length ≤ i) ?_ ?_ (s, []) ⟨by omega, by simp⟩).trans ?_
        · intro m t ht
          show s_machine_From_10 _ _ _ _ _ _ _ _ _ _ _ _ _ = _
          unfold s_machine_From_10
          rw [br_neg (by omega)]
          by_cases hk : k = 1
          · have := F.fou1 hk
            rw [br_eq hk, br_pos (by omega), if_pos hk]
          · rw [br_eq' hk, if_neg hk]
        · intro m i t hi ht
          have hx := hwx _ (List.getElem_mem hi)
          have hin := idx_in ht.1 hx
          have hg : (if k = 2 then t.2 ++ [ou.getD (t.1 * K + w[i]).toNat 0] else t.2).length ≤ i + 1 := by
            split
            · simp; omega
            · omega
          refine ⟨⟨goS_in F ht.1 hx, hg⟩, ?_⟩
          show s_machine_From_10 (run_machine_From K0 m) _ _ _ _ _ _ _ _ _ _ _ _ = run_machine_From K0 m (nx.getD (t.1 * K + w[i]).toNat 0) w (w.length : Int) ((i + 1 : Nat) : Int) k K O N nx ou (if k = 2 then t.2 ++ [ou.getD (t.1 * K + w[i]).toNat 0] else t.2)
          unfold s_machine_From_10
          rw [br_pos (by omega), br_pos (by omega), Int.toNat_natCast, getD_of 0 hi, wr (t.1 * K) (by omega) (by omega), wr (t.1 * K + w[i]) (by omega) (by omega), wr ((i : Int) + 1) (by omega) (by omega)]
          by_cases hk : k = 2
          · have := F.fou2 hk
            rw [br_eq hk, br_pos (by omega), br_pos (by simp [lim]; omega), br_pos (by omega), if_pos hk]
            rfl
          · rw [br_eq' hk, br_pos (by omega), if_neg hk]
            rfl
        · unfold endS
          rfl
      · rw [br_ne hw, if_pos (by simpa using hw)]
    · rw [br_ne hc, if_pos (by simpa using hc)]
  · cases h

theorem from_eq {R : Type} {k K O N : Int} {nx ou : List Int} {s : Int} {w : List Int} (h1 : okL nx) (h2 : okL ou) (K0 : Int → Int → List Int → Option R) :
    l_machine_From k K O N nx ou s w K0 = K0 (fromS k K O N nx ou s w).1 (fromS k K O N nx ou s w).2.1 (fromS k K O N nx ou s w).2.2 := by
  unfold l_machine_From
  rw [br_pos ⟨h1, h2⟩]

/-- tutor/machine.Run -/
def l_machine_Run {R : Type} (m : Int) (m_1 : Int) (m_2 : Int) (m_3 : Int) (m_4 : List Int) (m_5 : List Int) (w : List Int) (K0 : Int → (List Int) → Option R) : Option R :=
  l_machine_From m m_1 m_2 m_3 m_4 m_5 0 w
   (fun r1 r2 r3 =>
    K0 r2 r3)

/-- tutor/differ.fit -/
def s_differ_fit_2 {R : Type} (g36_2 : Int → Int → Int → Int → Int → Int → (List Int) → (List Int) → Int → Int → Int → Int → (List Int) → (List Int) → (List (Int × (Int × (Int × (Int × (List Int × List Int)))))) → Option R) (K0 : Int → Option R) (x12 : Int) (x13 : Int) (o0 : Int) (o0_1 : Int) (o0_2 : Int) (o0_3 : Int) (o0_4 : List Int) (o0_5 : List Int) (o1 : Int) (o1_1 : Int) (o1_2 : Int) (o1_3 : Int) (o1_4 : List Int) (o1_5 : List Int) (o2 : List (Int × (Int × (Int × (Int × (List Int × List Int)))))) : Option R :=
  bi (decide (x13 < x12))
   (bi (decide (0 ≤ x13 ∧ x13 < ((o2.length : Nat) : Int)))
    (l_machine_Check ((o2.getD x13.toNat (0, (0, (0, (0, ([], [])))))).1) (((o2.getD x13.toNat (0, (0, (0, (0, ([], [])))))).2).1) ((((o2.getD x13.toNat (0, (0, (0, (0, ([], [])))))).2).2).1) (((((o2.getD x13.toNat (0, (0, (0, (0, ([], [])))))).2).2).2).1) ((((((o2.getD x13.toNat (0, (0, (0, (0, ([], [])))))).2).2).2).2).1) ((((((o2.getD x13.toNat (0, (0, (0, (0, ([], [])))))).2).2).2).2).2)
     (fun r1 r2 =>
      bi (r2 != 0)
       (K0 r2)
       (g36_2 x12 (IntKind.i64.wrap (x13 + 1)) o0 o0_1 o0_2 o0_3 o0_4 o0_5 o1 o1_1 o1_2 o1_3 o1_4 o1_5 o2)))
    none)
   (bi (o0 != o1)
    (K0 30)
    (bi (o0_1 != o1_1)
     (K0 1)
     (bi (o0_2 != o1_2)
      (K0 33)
      (K0 0))))

/-- tutor/differ.fit -/
def e_differ_fit {R : Type} (g36_2 : Int → Int → Int → Int → Int → Int → (List Int) → (List Int) → Int → Int → Int → Int → (List Int) → (List Int) → (List (Int × (Int × (Int × (Int × (List Int × List Int)))))) → Option R) (K0 : Int → Option R) (a : Int) (a_1 : Int) (a_2 : Int) (a_3 : Int) (a_4 : List Int) (a_5 : List Int) (b : Int) (b_1 : Int) (b_2 : Int) (b_3 : Int) (b_4 : List Int) (b_5 : List Int) : Option R :=
  g36_2 ([(a, (a_1, (a_2, (a_3, (a_4, a_5))))), (b, (b_1, (b_2, (b_3, (b_4, b_5)))))].length : Int) 0 a a_1 a_2 a_3 a_4 a_5 b b_1 b_2 b_3 b_4 b_5 [(a, (a_1, (a_2, (a_3, (a_4, a_5))))), (b, (b_1, (b_2, (b_3, (b_4, b_5)))))]

def run_differ_fit {R : Type} (K0 : Int → Option R) : Nat → Int → Int → Int → Int → Int → Int → (List Int) → (List Int) → Int → Int → Int → Int → (List Int) → (List Int) → (List (Int × (Int × (Int × (Int × (List Int × List Int)))))) → Option R
  | 0 => fun _ _ _ _ _ _ _ _ _ _ _ _ _ _ _ => none
  | n + 1 => s_differ_fit_2 (run_differ_fit K0 n) K0

/-- Whether they may be held against one another. -/
def fitS (k K O N : Int) (nx ou : List Int) (k' K' O' N' : Int) (nx' ou' : List Int) : Int :=
  if (checkS k K O N nx ou).2 ≠ 0 then (checkS k K O N nx ou).2 else if (checkS k' K' O' N' nx' ou').2 ≠ 0 then (checkS k' K' O' N' nx' ou').2 else
    if k ≠ k' then 30 else if K ≠ K' then 1 else if O ≠ O' then 33 else 0

def l_differ_fit {R : Type} (a : Int) (a_1 : Int) (a_2 : Int) (a_3 : Int) (a_4 : List Int) (a_5 : List Int) (b : Int) (b_1 : Int) (b_2 : Int) (b_3 : Int) (b_4 : List Int) (b_5 : List Int) (K0 : Int → Option R) : Option R :=
  bi (decide ((short a_4 ∧ short a_5) ∧ short b_4 ∧ short b_5)) (K0 (fitS a a_1 a_2 a_3 a_4 a_5 b b_1 b_2 b_3 b_4 b_5)) none

theorem two0 {α : Type} (x y d : α) : [x, y].getD (0 : Int).toNat d = x := rfl
theorem two1 {α : Type} (x y d : α) : [x, y].getD (0 + 1 : Int).toNat d = y := rfl

theorem ok_differ_fit {R : Type} (a : Int) (a_1 : Int) (a_2 : Int) (a_3 : Int) (a_4 : List Int) (a_5 : List Int) (b : Int) (b_1 : Int) (b_2 : Int) (b_3 : Int) (b_4 : List Int) (b_5 : List Int) (K0 : Int → Option R) {r : R} (h : l_differ_fit a a_1 a_2 a_3 a_4 a_5 b b_1 b_2 b_3 b_4 b_5 K0 = some r) : ∃ fuel, e_differ_fit (run_differ_fit K0 fuel) K0 a a_1 a_2 a_3 a_4 a_5 b b_1 b_2 b_3 b_4 b_5 = some r := by
  unfold l_differ_fit at h
  rcases bi_some h with ⟨hs, h⟩ | ⟨_, h⟩
  · obtain ⟨⟨h1, h2⟩, h3, h4⟩ := of_decide_eq_true hs
    refine ⟨3, ?_⟩
    rw [← h]
    unfold e_differ_fit fitS
    show s_differ_fit_2 (run_differ_fit K0 2) _ _ _ _ _ _ _ _ _ _ _ _ _ _ _ _ = _
    unfold s_differ_fit_2
    rw [br_pos (by simp), br_pos (by simp)]
    simp only [two0]
    rw [check_eq _ _ _ _ _ _ h1 h2]
    by_cases c1 : (checkS a a_1 a_2 a_3 a_4 a_5).2 = 0
    · rw [br_ne' c1, if_neg (by simpa using c1), wr _ (by omega) (by omega)]
      show s_differ_fit_2 (run_differ_fit K0 1) _ _ _ _ _ _ _ _ _ _ _ _ _ _ _ _ = _
      unfold s_differ_fit_2
      rw [br_pos (by simp), br_pos (by simp)]
      simp only [two1]
      rw [check_eq _ _ _ _ _ _ h3 h4]
      by_cases c2 : (checkS b b_1 b_2 b_3 b_4 b_5).2 = 0
      · rw [br_ne' c2, if_neg (by simpa using c2), wr _ (by omega) (by omega)]
        show s_differ_fit_2 (run_differ_fit K0 0) _ _ _ _ _ _ _ _ _ _ _ _ _ _ _ _ = _
        unfold s_differ_fit_2
        rw [br_neg (by simp)]
        simp only [br_if, bne_iff_ne, ne_eq]
        repeat' (refine ite_l (fun _ => ?_) (fun _ => ?_))
        all_goals
          refine congrArg K0 ?_
          repeat' (refine ite_r (fun _ => ?_) (fun _ => ?_))
          all_goals omega
      · rw [br_ne c2, if_pos (by simpa using c2)]
    · rw [br_ne c1, if_pos (by simpa using c1)]
  · cases h

theorem fit_eq {R : Type} {k K O N : Int} {nx ou : List Int} {k' K' O' N' : Int} {nx' ou' : List Int} (h1 : okL nx) (h2 : okL ou) (h3 : okL nx') (h4 : okL ou') (K0 : Int → Option R) :
    l_differ_fit k K O N nx ou k' K' O' N' nx' ou' K0 = K0 (fitS k K O N nx ou k' K' O' N' nx' ou') := by
  unfold l_differ_fit
  rw [br_pos ⟨⟨h1.1, h2.1⟩, h3.1, h4.1⟩]

/-- slices.Reverse[[]int,int] -/
def s_slices_Reverse_int_int_1 {R : Type} (g45_1 : Int → Int → (List Int) → Option R) (K0 : (List Int) → Option R) (i : Int) (j : Int) (o0 : List Int) : Option R :=
  bi (decide (i < j))
   (bi (decide (0 ≤ j ∧ j < ((o0.length : Nat) : Int)))
    (bi (decide (0 ≤ i ∧ i < ((o0.length : Nat) : Int)))
     (bi (decide (0 ≤ i ∧ i < ((o0.length : Nat) : Int)))
      (bi (decide (0 ≤ j ∧ j < (((o0.set i.toNat (o0.getD j.toNat 0)).length : Nat) : Int)))
       (g45_1 (IntKind.i64.wrap (i + 1)) (IntKind.i64.wrap (j - 1)) ((o0.set i.toNat (o0.getD j.toNat 0)).set j.toNat (o0.getD i.toNat 0)))
       none)
      none)
     none)
    none)
   (K0 o0)

/-- slices.Reverse[[]int,int] -/
def e_slices_Reverse_int_int {R : Type} (g45_1 : Int → Int → (List Int) → Option R) (K0 : (List Int) → Option R) (o0 : List Int) : Option R :=
  g45_1 0 (IntKind.i64.wrap ((o0.length : Int) - 1)) o0

def run_slices_Reverse_int_int {R : Type} (K0 : (List Int) → Option R) : Nat → Int → Int → (List Int) → Option R
  | 0 => fun _ _ _ => none
  | n + 1 => s_slices_Reverse_int_int_1 (run_slices_Reverse_int_int K0 n) K0

def l_slices_Reverse_int_int {R : Type} (o0 : List Int) (K0 : (List Int) → Option R) : Option R := bi (decide (short o0)) (K0 o0.reverse) none

/-- Both ends turned, up to a place. -/
def revA (w : List Int) (a : Nat) : List Int := (List.range w.length).map fun t => if t < a ∨ w.length - a ≤ t then w.getD (w.length - 1 - t) 0 else w.getD t 0

theorem revA_len (w : List Int) (a : Nat) : (revA w a).length = w.length := by simp [revA]
theorem revA_get (w : List Int) (a t : Nat) (h : t < w.length) : (revA w a).getD t 0 = if t < a ∨ w.length - a ≤ t then w.getD (w.length - 1 - t) 0 else w.getD t 0 := by
  unfold revA
  rw [getD_of 0 (by simpa using h), List.getElem_map, List.getElem_range]
theorem revA_ext {w u : List Int} {a : Nat} (hl : u.length = w.length) (h : ∀ t, t < w.length → u.getD t 0 = if t < a ∨ w.length - a ≤ t then w.getD (w.length - 1 - t) 0 else w.getD t 0) : u = revA w a := by
  refine List.ext_getElem (by rw [hl, revA_len]) fun t h1 h2 => ?_
  have e1 := h t (by omega)
  rw [getD_of 0 h1] at e1
  rw [e1, ← getD_of 0 h2, revA_get w a t (by omega)]

theorem getD_set (l : List Int) (i t : Nat) (x : Int) : (l.set i x).getD t 0 = if i = t ∧ i < l.length then x else l.getD t 0 := by
  rw [List.getD_eq_getElem?_getD, List.getElem?_set, List.getD_eq_getElem?_getD]
  by_cases h : i = t
  · subst h
    by_cases h2 : i < l.length
    · simp [h2]
    · simp [h2]
  · simp [h]

theorem ok_slices_Reverse_int_int {R : Type} (o0 : List Int) (K0 : (List Int) → Option R) {r : R} (h : l_slices_Reverse_int_int o0 K0 = some r) : ∃ fuel, e_slices_Reverse_int_int (run_slices_Reverse_int_int K0 fuel) K0 o0 = some r := by
  unfold l_slices_Reverse_int_int at h
  rcases bi_some h with ⟨hs, h⟩ | ⟨_, h⟩
  · have hs : o0.length < 4611686018427387904 := of_decide_eq_true hs
    refine ⟨o0.length + 1, ?_⟩
    rw [← h]
    have key : ∀ (d a : Nat), a + d = o0.length → run_slices_Reverse_int_int K0 (d + 1) (a : Int) ((o0.length : Int) - 1 - (a : Int)) (revA o0 a) = K0 o0.reverse := by
      have fin : ∀ a : Nat, o0.length ≤ 2 * a + 1 → revA o0 a = o0.reverse := by
        intro a ha
        symm
        refine revA_ext (by simp) fun t ht => ?_
        have e : o0.reverse.getD t 0 = o0.getD (o0.length - 1 - t) 0 := by
          rw [getD_of 0 (by simpa using ht), List.getElem_reverse, getD_of 0 (by omega)]
        rw [e]
        split
        · rfl
        · have : o0.length - 1 - t = t := by omega
          rw [this]
      intro d
      induction d with
      | zero =>
        intro a ha
        show s_slices_Reverse_int_int_1 _ _ _ _ _ = _
        unfold s_slices_Reverse_int_int_1
        rw [br_neg (by omega), fin a (by omega)]
      | succ d ih =>
        intro a ha
        show s_slices_Reverse_int_int_1 _ _ _ _ _ = _
        unfold s_slices_Reverse_int_int_1
        by_cases c : (a : Int) < (o0.length : Int) - 1 - (a : Int)
        · have e1 : ((o0.length : Int) - 1 - (a : Int)).toNat = o0.length - 1 - a := by omega
          rw [br_pos c, revA_len, List.length_set, revA_len, br_pos (by omega), br_pos (by omega), br_pos (by omega), br_pos (by omega), wr _ (by omega) (by omega), wr _ (by omega) (by omega), Int.toNat_natCast, e1]
          have e2 : ((revA o0 a).set a ((revA o0 a).getD (o0.length - 1 - a) 0)).set (o0.length - 1 - a) ((revA o0 a).getD a 0) = revA o0 (a + 1) := by
            refine revA_ext (by simp [revA_len]) fun t ht => ?_
            rw [getD_set, getD_set, List.length_set, revA_len, revA_get _ _ _ ht, revA_get _ _ _ (show a < o0.length by omega), revA_get _ _ _ (show o0.length - 1 - a < o0.length by omega)]
            by_cases c1 : o0.length - 1 - a = t
            · rw [if_pos ⟨c1, by omega⟩, if_neg (by omega), if_pos (by omega)]
              congr 1
              omega
            · rw [if_neg (by omega)]
              by_cases c2 : a = t
              · rw [if_pos ⟨c2, by omega⟩, if_neg (by omega), if_pos (by omega), c2]
              · rw [if_neg (by omega)]
                by_cases c3 : t < a ∨ o0.length - a ≤ t
                · rw [if_pos c3, if_pos (by omega)]
                · rw [if_neg c3, if_neg (by omega)]
          rw [e2]
          have e3 : (o0.length : Int) - 1 - (a : Int) - 1 = (o0.length : Int) - 1 - ((a + 1 : Nat) : Int) := by omega
          rw [e3]
          exact ih (a + 1) (by omega)
        · rw [br_neg c, fin a (by omega)]
    have e0 : revA o0 0 = o0 := by
      symm
      refine revA_ext rfl fun t ht => ?_
      rw [if_neg (by omega)]
    have := key o0.length 0 (by omega)
    rw [e0] at this
    unfold e_slices_Reverse_int_int
    rw [wr _ (by omega) (by omega)]
    simpa using this
  · cases h

/-- tutor/differ.back -/
def s_differ_back_2 {R : Type} (g44_2 : (List ((Int × Int) × ((Int × Int) × Int))) → Int → Int → Int → Int → (List Int) → Option R) (K0 : (List ((Int × Int) × ((Int × Int) × Int))) → (List Int) → Option R) (o0 : List ((Int × Int) × ((Int × Int) × Int))) (o1 : Int) (o1_1 : Int) (o2 : Int) (o2_1 : Int) (o3 : List Int) : Option R :=
  bi (!(eqS (.pr (.int .i64) (.int .i64)) (o2, o2_1) (o1, o1_1)))
   (bi (decide ((o3.length + [(mgetD (.pr (.int .i64) (.int .i64)) (.pr (.pr (.int .i64) (.int .i64)) (.int .i64)) o0 (o2, o2_1)).2].length) * 8 ≤ lim))
    (g44_2 o0 o1 o1_1 (((mgetD (.pr (.int .i64) (.int .i64)) (.pr (.pr (.int .i64) (.int .i64)) (.int .i64)) o0 (o2, o2_1)).1).1) (((mgetD (.pr (.int .i64) (.int .i64)) (.pr (.pr (.int .i64) (.int .i64)) (.int .i64)) o0 (o2, o2_1)).1).2) (o3 ++ [(mgetD (.pr (.int .i64) (.int .i64)) (.pr (.pr (.int .i64) (.int .i64)) (.int .i64)) o0 (o2, o2_1)).2]))
    none)
   (l_slices_Reverse_int_int o3
    (fun r1 =>
     K0 o0 r1))

/-- tutor/differ.back -/
def e_differ_back {R : Type} (g44_2 : (List ((Int × Int) × ((Int × Int) × Int))) → Int → Int → Int → Int → (List Int) → Option R) (K0 : (List ((Int × Int) × ((Int × Int) × Int))) → (List Int) → Option R) (start : Int) (start_1 : Int) (p : Int) (p_1 : Int) (o0 : List ((Int × Int) × ((Int × Int) × Int))) : Option R :=
  g44_2 o0 start start_1 p p_1 ([] : List Int)

def run_differ_back {R : Type} (K0 : (List ((Int × Int) × ((Int × Int) × Int))) → (List Int) → Option R) : Nat → (List ((Int × Int) × ((Int × Int) × Int))) → Int → Int → Int → Int → (List Int) → Option R
  | 0 => fun _ _ _ _ _ _ => none
  | n + 1 => s_differ_back_2 (run_differ_back K0 n) K0

def l_differ_back {R : Type} (start : Int) (start_1 : Int) (p : Int) (p_1 : Int) (o0 : List ((Int × Int) × ((Int × Int) × Int))) (K0 : (List ((Int × Int) × ((Int × Int) × Int))) → (List Int) → Option R) : Option R :=
  bi (decide (o0.length ≤ 1000000000)) (match backF o0 (start, start_1) o0.length (p, p_1) with
    | some w => K0 o0 w
    | none => none) none

theorem back_run {R : Type} (o : Came) (s : Int × Int) (K0 : Came → (List Int) → Option R) : ∀ (n : Nat) (q : Int × Int) (w acc : List Int), backF o s n q = some w → acc.length + n ≤ 1000000000 →
    Reach (fun m => run_differ_back K0 m o s.1 s.2 q.1 q.2 acc) (K0 o (w ++ acc.reverse))
  | 0, q, w, acc, h, _ => by cases h
  | n + 1, q, w, acc, h, hl => by
    unfold backF at h
    by_cases c : q = s
    · rw [if_pos c] at h
      cases h
      refine .now fun m => ?_
      show s_differ_back_2 _ _ _ _ _ _ _ _ = _
      unfold s_differ_back_2 l_slices_Reverse_int_int
      rw [show eqS (.pr (.int .i64) (.int .i64)) (q.1, q.2) (s.1, s.2) = decide (q = s) from eqP q s, decide_eq_true c, br_pos (show short acc by unfold short; omega)]
      rfl
    · rw [if_neg c] at h
      cases hf : mfind (.pr (.int .i64) (.int .i64)) (.pr (.pr (.int .i64) (.int .i64)) (.int .i64)) q o with
      | none => rw [hf] at h; cases h
      | some v =>
        rw [hf] at h
        obtain ⟨p, x⟩ := v
        dsimp only at h
        cases hb : backF o s n p with
        | none => rw [hb] at h; cases h
        | some u =>
          rw [hb] at h
          cases h
          have ih := back_run o s K0 n p u (acc ++ [x]) hb (by simp; omega)
          rw [show u ++ [x] ++ acc.reverse = u ++ (acc ++ [x]).reverse by simp]
          refine .step (fun m => ?_) ih
          show s_differ_back_2 _ _ _ _ _ _ _ _ = _
          unfold s_differ_back_2
          have e : mgetD (.pr (.int .i64) (.int .i64)) (.pr (.pr (.int .i64) (.int .i64)) (.int .i64)) o (q.1, q.2) = (p, x) := by
            unfold mgetD
            rw [show mfind (.pr (.int .i64) (.int .i64)) (.pr (.pr (.int .i64) (.int .i64)) (.int .i64)) (q.1, q.2) o = some (p, x) from hf]
            rfl
          rw [show eqS (.pr (.int .i64) (.int .i64)) (q.1, q.2) (s.1, s.2) = decide (q = s) from eqP q s, decide_eq_false c, e]
          rw [show (!false) = true from rfl, br_tt, br_pos (by
            show (acc.length + 1) * 8 ≤ 140737488355328
            omega)]

theorem ok_differ_back {R : Type} (start : Int) (start_1 : Int) (p : Int) (p_1 : Int) (o0 : List ((Int × Int) × ((Int × Int) × Int))) (K0 : (List ((Int × Int) × ((Int × Int) × Int))) → (List Int) → Option R) {r : R} (h : l_differ_back start start_1 p p_1 o0 K0 = some r) : ∃ fuel, e_differ_back (run_differ_back K0 fuel) K0 start start_1 p p_1 o0 = some r := by
  unfold l_differ_back at h
  rcases bi_some h with ⟨hs, h⟩ | ⟨_, h⟩
  · have hs := of_decide_eq_true hs
    cases hb : backF o0 (start, start_1) o0.length (p, p_1) with
    | none => rw [hb] at h; cases h
    | some w =>
      rw [hb] at h
      dsimp only at h
      rw [← h]
      obtain ⟨n, hn⟩ := (back_run o0 (start, start_1) K0 _ _ w [] hb (by simpa using hs)).get
      exact ⟨n, by simpa [e_differ_back] using hn⟩
  · cases h

theorem back_eq {R : Type} {s : Int × Int} {o : Came} {L : List PW} (W : Ways s o L) {e : PW} (he : e ∈ L) (hl : L.length ≤ 1000000000) (K0 : Came → List Int → Option R) :
    l_differ_back s.1 s.2 e.1.1 e.1.2 o K0 = K0 o e.2 := by
  have hk : o.length = L.length := by simpa using congrArg List.length W.keys
  unfold l_differ_back
  rw [br_pos (by omega), hk, show backF o (s.1, s.2) L.length (e.1.1, e.1.2) = some e.2 from W.back e he]

/-- tutor/differ.search -/
def s_differ_search_9 {R : Type} (g37_9 : Int → Int → Int → Int → Int → (List Int) → (List Int) → Int → Int → Int → Int → (List Int) → (List Int) → Int → Int → (List ((Int × Int) × ((Int × Int) × Int))) → (List (Int × Int)) → Int → Int → (List Int) → Option R) (g37_13 : Int → Int → Int → Int → Int → Int → Int → (List Int) → (List Int) → Int → Int → Int → Int → (List Int) → (List Int) → Int → Int → (List ((Int × Int) × ((Int × Int) × Int))) → (List (Int × Int)) → Int → Int → (List Int) → Int → Int → Option R) (K0 : Bool → (List Int) → Option R) (i : Int) (o0 : Int) (o0_1 : Int) (o0_2 : Int) (o0_3 : Int) (o0_4 : List Int) (o0_5 : List Int) (o1 : Int) (o1_1 : Int) (o1_2 : Int) (o1_3 : Int) (o1_4 : List Int) (o1_5 : List Int) (o2 : Int) (o2_1 : Int) (o3 : List ((Int × Int) × ((Int × Int) × Int))) (o4 : List (Int × Int)) (o5 : Int) (o5_1 : Int) (o6 : List Int) : Option R :=
  bi (i == (o4.length : Int))
   (K0 false ([] : List Int))
   (bi (decide (0 ≤ i ∧ i < ((o4.length : Nat) : Int)))
    (g37_13 i o0_1 0 o0 o0_1 o0_2 o0_3 o0_4 o0_5 o1 o1_1 o1_2 o1_3 o1_4 o1_5 o2 o2_1 o3 o4 o5 o5_1 o6 ((o4.getD i.toNat (0, 0)).1) ((o4.getD i.toNat (0, 0)).2))
    none)

/-- tutor/differ.search -/
def s_differ_search_13 {R : Type} (g37_9 : Int → Int → Int → Int → Int → (List Int) → (List Int) → Int → Int → Int → Int → (List Int) → (List Int) → Int → Int → (List ((Int × Int) × ((Int × Int) × Int))) → (List (Int × Int)) → Int → Int → (List Int) → Option R) (g37_13 : Int → Int → Int → Int → Int → Int → Int → (List Int) → (List Int) → Int → Int → Int → Int → (List Int) → (List Int) → Int → Int → (List ((Int × Int) × ((Int × Int) × Int))) → (List (Int × Int)) → Int → Int → (List Int) → Int → Int → Option R) (K0 : Bool → (List Int) → Option R) (i : Int) (x55 : Int) (x56 : Int) (o0 : Int) (o0_1 : Int) (o0_2 : Int) (o0_3 : Int) (o0_4 : List Int) (o0_5 : List Int) (o1 : Int) (o1_1 : Int) (o1_2 : Int) (o1_3 : Int) (o1_4 : List Int) (o1_5 : List Int) (o2 : Int) (o2_1 : Int) (o3 : List ((Int × Int) × ((Int × Int) × Int))) (o4 : List (Int × Int)) (o5 : Int) (o5_1 : Int) (o6 : List Int) (o7 : Int) (o7_1 : Int) : Option R :=
  bi (decide (x56 < x55))
   (bi (decide (0 ≤ (IntKind.i64.wrap ((IntKind.i64.wrap (o7 * o0_1)) + x56)) ∧ (IntKind.i64.wrap ((IntKind.i64.wrap (o7 * o0_1)) + x56)) < ((o0_4.length : Nat) : Int)))
    (bi (decide (0 ≤ (IntKind.i64.wrap ((IntKind.i64.wrap (o7_1 * o1_1)) + x56)) ∧ (IntKind.i64.wrap ((IntKind.i64.wrap (o7_1 * o1_1)) + x56)) < ((o1_4.length : Nat) : Int)))
     (both
      (bi (o0 == 2)
       (bi (decide (0 ≤ (IntKind.i64.wrap ((IntKind.i64.wrap (o7 * o0_1)) + x56)) ∧ (IntKind.i64.wrap ((IntKind.i64.wrap (o7 * o0_1)) + x56)) < ((o0_5.length : Nat) : Int)))
        (bi (decide (0 ≤ (IntKind.i64.wrap ((IntKind.i64.wrap (o7_1 * o1_1)) + x56)) ∧ (IntKind.i64.wrap ((IntKind.i64.wrap (o7_1 * o1_1)) + x56)) < ((o1_5.length : Nat) : Int)))
         (bi ((o0_5.getD ((IntKind.i64.wrap ((IntKind.i64.wrap (o7 * o0_1)) + x56)).toNat) 0) != (o1_5.getD ((IntKind.i64.wrap ((IntKind.i64.wrap (o7_1 * o1_1)) + x56)).toNat) 0))
          (l_differ_back o2 o2_1 o7 o7_1 o3
           (fun r1 r2 =>
            bi (decide ((r2.length + [x56].length) * 8 ≤ lim))
             (K0 true (r2 ++ [x56]))
             none))
          (bi (mhas (.pr (.int .i64) (.int .i64)) (.pr (.pr (.int .i64) (.int .i64)) (.int .i64)) o3 (o0_4.getD ((IntKind.i64.wrap ((IntKind.i64.wrap (o7 * o0_1)) + x56)).toNat) 0, o1_4.getD ((IntKind.i64.wrap ((IntKind.i64.wrap (o7_1 * o1_1)) + x56)).toNat) 0))
           (g37_13 i x55 (IntKind.i64.wrap (x56 + 1)) o0 o0_1 o0_2 o0_3 o0_4 o0_5 o1 o1_1 o1_2 o1_3 o1_4 o1_5 o2 o2_1 o3 o4 o5 o5_1 o6 o7 o7_1)
           (bi (decide ((o4.length + [(o0_4.getD ((IntKind.i64.wrap ((IntKind.i64.wrap (o7 * o0_1)) + x56)).toNat) 0, o1_4.getD ((IntKind.i64.wrap ((IntKind.i64.wrap (o7_1 * o1_1)) + x56)).toNat) 0)].length) * 16 ≤ lim))
            (bi (o0 == 1)
             (bi (decide (0 ≤ (o0_4.getD ((IntKind.i64.wrap ((IntKind.i64.wrap (o7 * o0_1)) + x56)).toNat) 0) ∧ (o0_4.getD ((IntKind.i64.wrap ((IntKind.i64.wrap (o7 * o0_1)) + x56)).toNat) 0) < ((o0_5.length : Nat) : Int)))
              (bi (decide (0 ≤ (o1_4.getD ((IntKind.i64.wrap ((IntKind.i64.wrap (o7_1 * o1_1)) + x56)).toNat) 0) ∧ (o1_4.getD ((IntKind.i64.wrap ((IntKind.i64.wrap (o7_1 * o1_1)) + x56)).toNat) 0) < ((o1_5.length : Nat) : Int)))
               (bi ((o0_5.getD ((o0_4.getD ((IntKind.i64.wrap ((IntKind.i64.wrap (o7 * o0_1)) + x56)).toNat) 0).toNat) 0) != (o1_5.getD ((o1_4.getD ((IntKind.i64.wrap ((IntKind.i64.wrap (o7_1 * o1_1)) + x56)).toNat) 0).toNat) 0))
                (l_differ_back o2 o2_1 (o0_4.getD ((IntKind.i64.wrap ((IntKind.i64.wrap (o7 * o0_1)) + x56)).toNat) 0) (o1_4.getD ((IntKind.i64.wrap ((IntKind.i64.wrap (o7_1 * o1_1)) + x56)).toNat) 0) (mput (.pr (.int .i64) (.int .i64)) (.pr (.pr (.int .i64) (.int .i64)) (.int .i64)) (o0_4.getD ((IntKind.i64.wrap ((IntKind.i64.wrap (o7 * o0_1)) + x56)).toNat) 0, o1_4.getD ((IntKind.i64.wrap ((IntKind.i64.wrap (o7_1 * o1_1)) + x56)).toNat) 0) ((o7, o7_1), x56) o3)
                 (fun r3 r4 =>
                  bi (decide ((r4.length + o6.length) * 8 ≤ lim))
                   (K0 true (r4 ++ o6))
                   none))
                (g37_13 i x55 (IntKind.i64.wrap (x56 + 1)) o0 o0_1 o0_2 o0_3 o0_4 o0_5 o1 o1_1 o1_2 o1_3 o1_4 o1_5 o2 o2_1 (mput (.pr (.int .i64) (.int .i64)) (.pr (.pr (.int .i64) (.int .i64)) (.int .i64)) (o0_4.getD ((IntKind.i64.wrap ((IntKind.i64.wrap (o7 * o0_1)) + x56)).toNat) 0, o1_4.getD ((IntKind.i64.wrap ((IntKind.i64.wrap (o7_1 * o1_1)) + x56)).toNat) 0) ((o7, o7_1), x56) o3) (o4 ++ [(o0_4.getD ((IntKind.i64.wrap ((IntKind.i64.wrap (o7 * o0_1)) + x56)).toNat) 0, o1_4.getD ((IntKind.i64.wrap ((IntKind.i64.wrap (o7_1 * o1_1)) + x56)).toNat) 0)]) o5 o5_1 o6 o7 o7_1))
               none)
              none)
             (g37_13 i x55 (IntKind.i64.wrap (x56 + 1)) o0 o0_1 o0_2 o0_3 o0_4 o0_5 o1 o1_1 o1_2 o1_3 o1_4 o1_5 o2 o2_1 (mput (.pr (.int .i64) (.int .i64)) (.pr (.pr (.int .i64) (.int .i64)) (.int .i64)) (o0_4.getD ((IntKind.i64.wrap ((IntKind.i64.wrap (o7 * o0_1)) + x56)).toNat) 0, o1_4.getD ((IntKind.i64.wrap ((IntKind.i64.wrap (o7_1 * o1_1)) + x56)).toNat) 0) ((o7, o7_1), x56) o3) (o4 ++ [(o0_4.getD ((IntKind.i64.wrap ((IntKind.i64.wrap (o7 * o0_1)) + x56)).toNat) 0, o1_4.getD ((IntKind.i64.wrap ((IntKind.i64.wrap (o7_1 * o1_1)) + x56)).toNat) 0)]) o5 o5_1 o6 o7 o7_1))
            none)))
         none)
        none)
       (bi (mhas (.pr (.int .i64) (.int .i64)) (.pr (.pr (.int .i64) (.int .i64)) (.int .i64)) o3 (o0_4.getD ((IntKind.i64.wrap ((IntKind.i64.wrap (o7 * o0_1)) + x56)).toNat) 0, o1_4.getD ((IntKind.i64.wrap ((IntKind.i64.wrap (o7_1 * o1_1)) + x56)).toNat) 0))
        (g37_13 i x55 (IntKind.i64.wrap (x56 + 1)) o0 o0_1 o0_2 o0_3 o0_4 o0_5 o1 o1_1 o1_2 o1_3 o1_4 o1_5 o2 o2_1 o3 o4 o5 o5_1 o6 o7 o7_1)
        (bi (decide ((o4.length + [(o0_4.getD ((IntKind.i64.wrap ((IntKind.i64.wrap (o7 * o0_1)) + x56)).toNat) 0, o1_4.getD ((IntKind.i64.wrap ((IntKind.i64.wrap (o7_1 * o1_1)) + x56)).toNat) 0)].length) * 16 ≤ lim))
         (bi (o0 == 1)
          (bi (decide (0 ≤ (o0_4.getD ((IntKind.i64.wrap ((IntKind.i64.wrap (o7 * o0_1)) + x56)).toNat) 0) ∧ (o0_4.getD ((IntKind.i64.wrap ((IntKind.i64.wrap (o7 * o0_1)) + x56)).toNat) 0) < ((o0_5.length : Nat) : Int)))
           (bi (decide (0 ≤ (o1_4.getD ((IntKind.i64.wrap ((IntKind.i64.wrap (o7_1 * o1_1)) + x56)).toNat) 0) ∧ (o1_4.getD ((IntKind.i64.wrap ((IntKind.i64.wrap (o7_1 * o1_1)) + x56)).toNat) 0) < ((o1_5.length : Nat) : Int)))
            (bi ((o0_5.getD ((o0_4.getD ((IntKind.i64.wrap ((IntKind.i64.wrap (o7 * o0_1)) + x56)).toNat) 0).toNat) 0) != (o1_5.getD ((o1_4.getD ((IntKind.i64.wrap ((IntKind.i64.wrap (o7_1 * o1_1)) + x56)).toNat) 0).toNat) 0))
             (l_differ_back o2 o2_1 (o0_4.getD ((IntKind.i64.wrap ((IntKind.i64.wrap (o7 * o0_1)) + x56)).toNat) 0) (o1_4.getD ((IntKind.i64.wrap ((IntKind.i64.wrap (o7_1 * o1_1)) + x56)).toNat) 0) (mput (.pr (.int .i64) (.int .i64)) (.pr (.pr (.int .i64) (.int .i64)) (.int .i64)) (o0_4.getD ((IntKind.i64.wrap ((IntKind.i64.wrap (o7 * o0_1)) + x56)).toNat) 0, o1_4.getD ((IntKind.i64.wrap ((IntKind.i64.wrap (o7_1 * o1_1)) + x56)).toNat) 0) ((o7, o7_1), x56) o3)
              (fun r5 r6 =>
               bi (decide ((r6.length + o6.length) * 8 ≤ lim))
                (K0 true (r6 ++ o6))
                none))
             (g37_13 i x55 (IntKind.i64.wrap (x56 + 1)) o0 o0_1 o0_2 o0_3 o0_4 o0_5 o1 o1_1 o1_2 o1_3 o1_4 o1_5 o2 o2_1 (mput (.pr (.int .i64) (.int .i64)) (.pr (.pr (.int .i64) (.int .i64)) (.int .i64)) (o0_4.getD ((IntKind.i64.wrap ((IntKind.i64.wrap (o7 * o0_1)) + x56)).toNat) 0, o1_4.getD ((IntKind.i64.wrap ((IntKind.i64.wrap (o7_1 * o1_1)) + x56)).toNat) 0) ((o7, o7_1), x56) o3) (o4 ++ [(o0_4.getD ((IntKind.i64.wrap ((IntKind.i64.wrap (o7 * o0_1)) + x56)).toNat) 0, o1_4.getD ((IntKind.i64.wrap ((IntKind.i64.wrap (o7_1 * o1_1)) + x56)).toNat) 0)]) o5 o5_1 o6 o7 o7_1))
            none)
           none)
          (g37_13 i x55 (IntKind.i64.wrap (x56 + 1)) o0 o0_1 o0_2 o0_3 o0_4 o0_5 o1 o1_1 o1_2 o1_3 o1_4 o1_5 o2 o2_1 (mput (.pr (.int .i64) (.int .i64)) (.pr (.pr (.int .i64) (.int .i64)) (.int .i64)) (o0_4.getD ((IntKind.i64.wrap ((IntKind.i64.wrap (o7 * o0_1)) + x56)).toNat) 0, o1_4.getD ((IntKind.i64.wrap ((IntKind.i64.wrap (o7_1 * o1_1)) + x56)).toNat) 0) ((o7, o7_1), x56) o3) (o4 ++ [(o0_4.getD ((IntKind.i64.wrap ((IntKind.i64.wrap (o7 * o0_1)) + x56)).toNat) 0, o1_4.getD ((IntKind.i64.wrap ((IntKind.i64.wrap (o7_1 * o1_1)) + x56)).toNat) 0)]) o5 o5_1 o6 o7 o7_1))
         none)))
      (bi (o0 == 2)
       (bi (decide (0 ≤ (IntKind.i64.wrap ((IntKind.i64.wrap (o7 * o0_1)) + x56)) ∧ (IntKind.i64.wrap ((IntKind.i64.wrap (o7 * o0_1)) + x56)) < ((o0_5.length : Nat) : Int)))
        (bi (decide (0 ≤ (IntKind.i64.wrap ((IntKind.i64.wrap (o7_1 * o1_1)) + x56)) ∧ (IntKind.i64.wrap ((IntKind.i64.wrap (o7_1 * o1_1)) + x56)) < ((o1_5.length : Nat) : Int)))
         (bi ((o0_5.getD ((IntKind.i64.wrap ((IntKind.i64.wrap (o7 * o0_1)) + x56)).toNat) 0) != (o1_5.getD ((IntKind.i64.wrap ((IntKind.i64.wrap (o7_1 * o1_1)) + x56)).toNat) 0))
          (l_differ_back o2 o2_1 o7 o7_1 o3
           (fun r7 r8 =>
            bi (decide ((r8.length + [x56].length) * 8 ≤ lim))
             (K0 true (r8 ++ [x56]))
             none))
          (bi (mhas (.pr (.int .i64) (.int .i64)) (.pr (.pr (.int .i64) (.int .i64)) (.int .i64)) o3 (o0_4.getD ((IntKind.i64.wrap ((IntKind.i64.wrap (o7 * o0_1)) + x56)).toNat) 0, o1_4.getD ((IntKind.i64.wrap ((IntKind.i64.wrap (o7_1 * o1_1)) + x56)).toNat) 0))
           (g37_13 i x55 (IntKind.i64.wrap (x56 + 1)) o0 o0_1 o0_2 o0_3 o0_4 o0_5 o1 o1_1 o1_2 o1_3 o1_4 o1_5 o2 o2_1 o3 o4 o5 o5_1 o6 o7 o7_1)
           (bi (decide ((o4.length + [(o0_4.getD ((IntKind.i64.wrap ((IntKind.i64.wrap (o7 * o0_1)) + x56)).toNat) 0, o1_4.getD ((IntKind.i64.wrap ((IntKind.i64.wrap (o7_1 * o1_1)) + x56)).toNat) 0)].length) * 16 ≤ lim))
            (bi (o0 == 1)
             (bi (decide (0 ≤ (o0_4.getD ((IntKind.i64.wrap ((IntKind.i64.wrap (o7 * o0_1)) + x56)).toNat) 0) ∧ (o0_4.getD ((IntKind.i64.wrap ((IntKind.i64.wrap (o7 * o0_1)) + x56)).toNat) 0) < ((o0_5.length : Nat) : Int)))
              (bi (decide (0 ≤ (o1_4.getD ((IntKind.i64.wrap ((IntKind.i64.wrap (o7_1 * o1_1)) + x56)).toNat) 0) ∧ (o1_4.getD ((IntKind.i64.wrap ((IntKind.i64.wrap (o7_1 * o1_1)) + x56)).toNat) 0) < ((o1_5.length : Nat) : Int)))
               (bi ((o0_5.getD ((o0_4.getD ((IntKind.i64.wrap ((IntKind.i64.wrap (o7 * o0_1)) + x56)).toNat) 0).toNat) 0) != (o1_5.getD ((o1_4.getD ((IntKind.i64.wrap ((IntKind.i64.wrap (o7_1 * o1_1)) + x56)).toNat) 0).toNat) 0))
                (l_differ_back o2 o2_1 (o0_4.getD ((IntKind.i64.wrap ((IntKind.i64.wrap (o7 * o0_1)) + x56)).toNat) 0) (o1_4.getD ((IntKind.i64.wrap ((IntKind.i64.wrap (o7_1 * o1_1)) + x56)).toNat) 0) (mput (.pr (.int .i64) (.int .i64)) (.pr (.pr (.int .i64) (.int .i64)) (.int .i64)) (o0_4.getD ((IntKind.i64.wrap ((IntKind.i64.wrap (o7 * o0_1)) + x56)).toNat) 0, o1_4.getD ((IntKind.i64.wrap ((IntKind.i64.wrap (o7_1 * o1_1)) + x56)).toNat) 0) ((o7, o7_1), x56) o3)
                 (fun r9 r10 =>
                  bi (decide ((r10.length + o6.length) * 8 ≤ lim))
                   (K0 true (r10 ++ o6))
                   none))
                (g37_13 i x55 (IntKind.i64.wrap (x56 + 1)) o0 o0_1 o0_2 o0_3 o0_4 o0_5 o1 o1_1 o1_2 o1_3 o1_4 o1_5 o2 o2_1 (mput (.pr (.int .i64) (.int .i64)) (.pr (.pr (.int .i64) (.int .i64)) (.int .i64)) (o0_4.getD ((IntKind.i64.wrap ((IntKind.i64.wrap (o7 * o0_1)) + x56)).toNat) 0, o1_4.getD ((IntKind.i64.wrap ((IntKind.i64.wrap (o7_1 * o1_1)) + x56)).toNat) 0) ((o7, o7_1), x56) o3) (o4 ++ [(o0_4.getD ((IntKind.i64.wrap ((IntKind.i64.wrap (o7 * o0_1)) + x56)).toNat) 0, o1_4.getD ((IntKind.i64.wrap ((IntKind.i64.wrap (o7_1 * o1_1)) + x56)).toNat) 0)]) o5 o5_1 o6 o7 o7_1))
               none)
              none)
             (g37_13 i x55 (IntKind.i64.wrap (x56 + 1)) o0 o0_1 o0_2 o0_3 o0_4 o0_5 o1 o1_1 o1_2 o1_3 o1_4 o1_5 o2 o2_1 (mput (.pr (.int .i64) (.int .i64)) (.pr (.pr (.int .i64) (.int .i64)) (.int .i64)) (o0_4.getD ((IntKind.i64.wrap ((IntKind.i64.wrap (o7 * o0_1)) + x56)).toNat) 0, o1_4.getD ((IntKind.i64.wrap ((IntKind.i64.wrap (o7_1 * o1_1)) + x56)).toNat) 0) ((o7, o7_1), x56) o3) (o4 ++ [(o0_4.getD ((IntKind.i64.wrap ((IntKind.i64.wrap (o7 * o0_1)) + x56)).toNat) 0, o1_4.getD ((IntKind.i64.wrap ((IntKind.i64.wrap (o7_1 * o1_1)) + x56)).toNat) 0)]) o5 o5_1 o6 o7 o7_1))
            none)))
         none)
        none)
       (bi (mhas (.pr (.int .i64) (.int .i64)) (.pr (.pr (.int .i64) (.int .i64)) (.int .i64)) o3 (o0_4.getD ((IntKind.i64.wrap ((IntKind.i64.wrap (o7 * o0_1)) + x56)).toNat) 0, o1_4.getD ((IntKind.i64.wrap ((IntKind.i64.wrap (o7_1 * o1_1)) + x56)).toNat) 0))
        (g37_13 i x55 (IntKind.i64.wrap (x56 + 1)) o0 o0_1 o0_2 o0_3 o0_4 o0_5 o1 o1_1 o1_2 o1_3 o1_4 o1_5 o2 o2_1 o3 o4 o5 o5_1 o6 o7 o7_1)
        (bi (decide ((o4.length + [(o0_4.getD ((IntKind.i64.wrap ((IntKind.i64.wrap (o7 * o0_1)) + x56)).toNat) 0, o1_4.getD ((IntKind.i64.wrap ((IntKind.i64.wrap (o7_1 * o1_1)) + x56)).toNat) 0)].length) * 16 ≤ lim))
         (bi (o0 == 1)
          (bi (decide (0 ≤ (o0_4.getD ((IntKind.i64.wrap ((IntKind.i64.wrap (o7 * o0_1)) + x56)).toNat) 0) ∧ (o0_4.getD ((IntKind.i64.wrap ((IntKind.i64.wrap (o7 * o0_1)) + x56)).toNat) 0) < ((o0_5.length : Nat) : Int)))
           (bi (decide (0 ≤ (o1_4.getD ((IntKind.i64.wrap ((IntKind.i64.wrap (o7_1 * o1_1)) + x56)).toNat) 0) ∧ (o1_4.getD ((IntKind.i64.wrap ((IntKind.i64.wrap (o7_1 * o1_1)) + x56)).toNat) 0) < ((o1_5.length : Nat) : Int)))
            (bi ((o0_5.getD ((o0_4.getD ((IntKind.i64.wrap ((IntKind.i64.wrap (o7 * o0_1)) + x56)).toNat) 0).toNat) 0) != (o1_5.getD ((o1_4.getD ((IntKind.i64.wrap ((IntKind.i64.wrap (o7_1 * o1_1)) + x56)).toNat) 0).toNat) 0))
             (l_differ_back o2 o2_1 (o0_4.getD ((IntKind.i64.wrap ((IntKind.i64.wrap (o7 * o0_1)) + x56)).toNat) 0) (o1_4.getD ((IntKind.i64.wrap ((IntKind.i64.wrap (o7_1 * o1_1)) + x56)).toNat) 0) (mput (.pr (.int .i64) (.int .i64)) (.pr (.pr (.int .i64) (.int .i64)) (.int .i64)) (o0_4.getD ((IntKind.i64.wrap ((IntKind.i64.wrap (o7 * o0_1)) + x56)).toNat) 0, o1_4.getD ((IntKind.i64.wrap ((IntKind.i64.wrap (o7_1 * o1_1)) + x56)).toNat) 0) ((o7, o7_1), x56) o3)
              (fun r11 r12 =>
               bi (decide ((r12.length + o6.length) * 8 ≤ lim))
                (K0 true (r12 ++ o6))
                none))
             (g37_13 i x55 (IntKind.i64.wrap (x56 + 1)) o0 o0_1 o0_2 o0_3 o0_4 o0_5 o1 o1_1 o1_2 o1_3 o1_4 o1_5 o2 o2_1 (mput (.pr (.int .i64) (.int .i64)) (.pr (.pr (.int .i64) (.int .i64)) (.int .i64)) (o0_4.getD ((IntKind.i64.wrap ((IntKind.i64.wrap (o7 * o0_1)) + x56)).toNat) 0, o1_4.getD ((IntKind.i64.wrap ((IntKind.i64.wrap (o7_1 * o1_1)) + x56)).toNat) 0) ((o7, o7_1), x56) o3) (o4 ++ [(o0_4.getD ((IntKind.i64.wrap ((IntKind.i64.wrap (o7 * o0_1)) + x56)).toNat) 0, o1_4.getD ((IntKind.i64.wrap ((IntKind.i64.wrap (o7_1 * o1_1)) + x56)).toNat) 0)]) o5 o5_1 o6 o7 o7_1))
            none)
           none)
          (g37_13 i x55 (IntKind.i64.wrap (x56 + 1)) o0 o0_1 o0_2 o0_3 o0_4 o0_5 o1 o1_1 o1_2 o1_3 o1_4 o1_5 o2 o2_1 (mput (.pr (.int .i64) (.int .i64)) (.pr (.pr (.int .i64) (.int .i64)) (.int .i64)) (o0_4.getD ((IntKind.i64.wrap ((IntKind.i64.wrap (o7 * o0_1)) + x56)).toNat) 0, o1_4.getD ((IntKind.i64.wrap ((IntKind.i64.wrap (o7_1 * o1_1)) + x56)).toNat) 0) ((o7, o7_1), x56) o3) (o4 ++ [(o0_4.getD ((IntKind.i64.wrap ((IntKind.i64.wrap (o7 * o0_1)) + x56)).toNat) 0, o1_4.getD ((IntKind.i64.wrap ((IntKind.i64.wrap (o7_1 * o1_1)) + x56)).toNat) 0)]) o5 o5_1 o6 o7 o7_1))
         none))))
     none)
    none)
   (g37_9 (IntKind.i64.wrap (i + 1)) o0 o0_1 o0_2 o0_3 o0_4 o0_5 o1 o1_1 o1_2 o1_3 o1_4 o1_5 o2 o2_1 o3 o4 o5 o5_1 o6)

/-- tutor/differ.search -/
def e_differ_search {R : Type} (g37_9 : Int → Int → Int → Int → Int → (List Int) → (List Int) → Int → Int → Int → Int → (List Int) → (List Int) → Int → Int → (List ((Int × Int) × ((Int × Int) × Int))) → (List (Int × Int)) → Int → Int → (List Int) → Option R) (g37_13 : Int → Int → Int → Int → Int → Int → Int → (List Int) → (List Int) → Int → Int → Int → Int → (List Int) → (List Int) → Int → Int → (List ((Int × Int) × ((Int × Int) × Int))) → (List (Int × Int)) → Int → Int → (List Int) → Int → Int → Option R) (K0 : Bool → (List Int) → Option R) (a : Int) (a_1 : Int) (a_2 : Int) (a_3 : Int) (a_4 : List Int) (a_5 : List Int) (b : Int) (b_1 : Int) (b_2 : Int) (b_3 : Int) (b_4 : List Int) (b_5 : List Int) (start : Int) (start_1 : Int) : Option R :=
  bi (a == 1)
   (bi (decide (0 ≤ start ∧ start < ((a_5.length : Nat) : Int)))
    (bi (decide (0 ≤ start_1 ∧ start_1 < ((b_5.length : Nat) : Int)))
     (bi ((a_5.getD start.toNat 0) != (b_5.getD start_1.toNat 0))
      (K0 true ([] : List Int))
      (g37_9 0 a a_1 a_2 a_3 a_4 a_5 b b_1 b_2 b_3 b_4 b_5 start start_1 (mput (.pr (.int .i64) (.int .i64)) (.pr (.pr (.int .i64) (.int .i64)) (.int .i64)) (start, start_1) ((0, 0), 0) ([] : List ((Int × Int) × ((Int × Int) × Int)))) [(start, start_1)] 0 0 ([] : List Int)))
     none)
    none)
   (g37_9 0 a a_1 a_2 a_3 a_4 a_5 b b_1 b_2 b_3 b_4 b_5 start start_1 (mput (.pr (.int .i64) (.int .i64)) (.pr (.pr (.int .i64) (.int .i64)) (.int .i64)) (start, start_1) ((0, 0), 0) ([] : List ((Int × Int) × ((Int × Int) × Int)))) [(start, start_1)] 0 0 ([] : List Int))

def run_differ_search {R : Type} (K0 : Bool → (List Int) → Option R) : Nat → (Int → Int → Int → Int → Int → (List Int) → (List Int) → Int → Int → Int → Int → (List Int) → (List Int) → Int → Int → (List ((Int × Int) × ((Int × Int) × Int))) → (List (Int × Int)) → Int → Int → (List Int) → Option R) × (Int → Int → Int → Int → Int → Int → Int → (List Int) → (List Int) → Int → Int → Int → Int → (List Int) → (List Int) → Int → Int → (List ((Int × Int) × ((Int × Int) × Int))) → (List (Int × Int)) → Int → Int → (List Int) → Int → Int → Option R)
  | 0 => (fun _ _ _ _ _ _ _ _ _ _ _ _ _ _ _ _ _ _ _ _ => none, fun _ _ _ _ _ _ _ _ _ _ _ _ _ _ _ _ _ _ _ _ _ _ _ _ => none)
  | n + 1 => (s_differ_search_9 (run_differ_search K0 n).1 (run_differ_search K0 n).2 K0, s_differ_search_13 (run_differ_search K0 n).1 (run_differ_search K0 n).2 K0)

def l_differ_search {R : Type} (a : Int) (a_1 : Int) (a_2 : Int) (a_3 : Int) (a_4 : List Int) (a_5 : List Int) (b : Int) (b_1 : Int) (b_2 : Int) (b_3 : Int) (b_4 : List Int) (b_5 : List Int) (start : Int) (start_1 : Int) (K0 : Bool → (List Int) → Option R) : Option R :=
  bi (decide ((checkR a a_1 a_2 a_3 a_4 a_5).2 = 0 ∧ (checkR b b_1 b_2 b_3 b_4 b_5).2 = 0 ∧ a = b ∧ a_1 = b_1 ∧ (0 ≤ start ∧ start < a_3) ∧ (0 ≤ start_1 ∧ start_1 < b_3)))
    (K0 (searchS ⟨a, a_1, a_3, b_3, a_4, a_5, b_4, b_5⟩ (start, start_1)).1 (searchS ⟨a, a_1, a_3, b_3, a_4, a_5, b_4, b_5⟩ (start, start_1)).2) none

theorem rows_get (L : List PW) (i : Nat) : (L.map (·.1)).getD i (0, 0) = (L.getD i pw0).1 := by
  simp only [List.getD_eq_getElem?_getD, List.getElem?_map]
  cases L[i]? <;> rfl

theorem search_run {R : Type} {D : Duo} {O O' : Int} (A : Fine D.k D.K O D.N D.nx D.ou) (B : Fine D.k D.K O' D.M D.nx' D.ou') (s : Int × Int) (K0 : Bool → List Int → Option R) :
    ∀ (n i x : Nat) (L : List PW) (o : Came) (r : Bool × List Int), bfs D n i x L = some r → Inv D s L → Ways s o L → i < L.length → x ≤ D.K.toNat →
    Reach (fun m => (run_differ_search K0 m).2 i D.K x D.k D.K O D.N D.nx D.ou D.k D.K O' D.M D.nx' D.ou' s.1 s.2 o (L.map (·.1)) 0 0 [] (L.getD i pw0).1.1 (L.getD i pw0).1.2) (K0 r.1 r.2)
  | 0, _, _, _, _, _, h, _, _, _, _ => by cases h
  | n + 1, i, x, L, o, r, h, I, W, hi, hx => by
    have F : D.Fine := ⟨⟨O, A⟩, ⟨O', B⟩⟩
    have hK := A.fK
    have hNK := mulK ⟨A.fN, A.fK⟩
    have hMK := mulK ⟨B.fN, B.fK⟩
    have hNM := mul_most A.fN B.fN
    have hmost := I.most
    have hm : L.getD i pw0 ∈ L := getD_mem hi
    have hp := I.inn _ hm
    unfold bfs at h
    by_cases c : (x : Int) < D.K
    · rw [if_pos c] at h
      have hx' : 0 ≤ (x : Int) ∧ (x : Int) < D.K := ⟨by omega, c⟩
      have i1 := idx_in hp.1 hx'
      have i2 := idx_in hp.2 hx'
      have f1 := A.fnx
      have f2 := B.fnx
      have hq := nxt_inn F hp hx'
      have hlen := I.len i hi
      have hrow : (L.map (·.1)).length = L.length := List.length_map _
      have key : ∀ m, (run_differ_search K0 (m + 1)).2 i D.K x D.k D.K O D.N D.nx D.ou D.k D.K O' D.M D.nx' D.ou' s.1 s.2 o (L.map (·.1)) 0 0 [] (L.getD i pw0).1.1 (L.getD i pw0).1.2 =
          if D.sy (L.getD i pw0).1 x || D.st (D.nxt (L.getD i pw0).1 x) then K0 true ((L.getD i pw0).2 ++ [(x : Int)])
          else if known L (D.nxt (L.getD i pw0).1 x) then (run_differ_search K0 m).2 i D.K ((x + 1 : Nat) : Int) D.k D.K O D.N D.nx D.ou D.k D.K O' D.M D.nx' D.ou' s.1 s.2 o (L.map (·.1)) 0 0 [] (L.getD i pw0).1.1 (L.getD i pw0).1.2
          else (run_differ_search K0 m).2 i D.K ((x + 1 : Nat) : Int) D.k D.K O D.N D.nx D.ou D.k D.K O' D.M D.nx' D.ou' s.1 s.2 (o ++ [(D.nxt (L.getD i pw0).1 x, ((L.getD i pw0).1, (x : Int)))]) (L.map (·.1) ++ [D.nxt (L.getD i pw0).1 x]) 0 0 [] (L.getD i pw0).1.1 (L.getD i pw0).1.2 := by
        intro m
        show s_differ_search_13 _ _ _ _ _ _ _ _ _ _ _ _ _ _ _ _ _ _ _ _ _ _ _ _ _ _ _ = _
        unfold s_differ_search_13
        simp only [both_same]
        generalize hP : L.getD i pw0 = P at *
        obtain ⟨⟨p1, p2⟩, w⟩ := P
        dsimp only at hp i1 i2 hq hlen ⊢
        rw [br_pos c, wr (p1 * D.K) (by omega) (by omega), wr (p2 * D.K) (by omega) (by omega), wr (p1 * D.K + x) (by omega) (by omega), wr (p2 * D.K + x) (by omega) (by omega), wr ((x : Int) + 1) (by omega) (by omega)]
        rw [br_pos (by omega), br_pos (by omega)]
        have hmh := mhas_known W (D.nxt (p1, p2) x)
        have hst : D.k = 2 → ∀ q, D.st q = false := fun h q => by unfold Duo.st; rw [h]; rfl
        have hsy : D.k = 1 → ∀ q y, D.sy q y = false := fun h q y => by unfold Duo.sy; rw [h]; rfl
        have hQ : D.nxt (p1, p2) x = (D.nx.getD (p1 * D.K + x).toNat 0, D.nx'.getD (p2 * D.K + x).toNat 0) := rfl
        rw [← hQ]
        rw [show D.nx.getD (p1 * D.K + x).toNat 0 = (D.nxt (p1, p2) x).1 from rfl, show D.nx'.getD (p2 * D.K + x).toNat 0 = (D.nxt (p1, p2) x).2 from rfl]
        generalize hq' : D.nxt (p1, p2) x = q at *
        rw [show mhas (.pr (.int .i64) (.int .i64)) (.pr (.pr (.int .i64) (.int .i64)) (.int .i64)) o q = known L q from hmh]
        have hpl : ((L.map (·.1)).length + [q].length) * 16 ≤ lim := by
          rw [hrow]
          show (L.length + 1) * 16 ≤ 140737488355328
          omega
        have hsame : known L q = true → D.st q = false := fun hk => by
          obtain ⟨e, he, rfl⟩ := List.mem_map.1 (known_iff.1 hk)
          exact I.st e he
        have hnew : known L q = false → mput (.pr (.int .i64) (.int .i64)) (.pr (.pr (.int .i64) (.int .i64)) (.int .i64)) q ((p1, p2), (x : Int)) o = o ++ [(q, ((p1, p2), (x : Int)))] := fun hk => mput_new (by
          rw [W.keys]
          intro hm
          rw [known_iff.2 hm] at hk
          cases hk)
        rcases A.fk with hk | hk
        · rw [br_eq' (by omega), hsy hk, Bool.false_or]
          have g1 := A.fou1 hk
          have g2 := B.fou1 hk
          cases hkn : known L q with
          | true =>
            rw [br_tt, hsame hkn, if_neg (by decide), if_pos rfl]
            rfl
          | false =>
            rw [br_ff, br_pos hpl, br_eq hk, br_pos (by have := hq.1; omega), br_pos (by have := hq.2; omega), hnew hkn]
            have hs : D.st q = (D.ou.getD q.1.toNat 0 != D.ou'.getD q.2.toNat 0) := by unfold Duo.st; rw [hk]; rfl
            rw [← hs]
            cases hst' : D.st q with
            | true =>
              rw [br_tt, if_pos rfl]
              have Wp := W.push (e := ((p1, p2), w)) hm hkn x
              rw [show l_differ_back s.1 s.2 q.1 q.2 (o ++ [(q, ((p1, p2), (x : Int)))]) _ = _ from back_eq Wp (e := (q, w ++ [(x : Int)])) (by simp) (by simp; omega) _]
              dsimp only
              rw [br_pos (by
                rw [List.length_append]
                show (w.length + 1 + 0) * 8 ≤ 140737488355328
                omega), List.append_nil]
            | false =>
              rw [br_ff, if_neg (by decide), if_neg (by decide)]
              rfl
        · have g1 := A.fou2 hk
          have g2 := B.fou2 hk
          rw [br_eq hk, br_pos (by omega), br_pos (by omega), hst hk, Bool.or_false]
          have hs : D.sy (p1, p2) x = (D.ou.getD (p1 * D.K + x).toNat 0 != D.ou'.getD (p2 * D.K + x).toNat 0) := by unfold Duo.sy; rw [hk]; rfl
          rw [← hs]
          cases hsy' : D.sy (p1, p2) x with
          | true =>
            rw [br_tt, if_pos rfl, show l_differ_back s.1 s.2 p1 p2 o _ = _ from back_eq W (e := ((p1, p2), w)) hm (by omega) _]
            dsimp only
            rw [br_pos (by
              show (w.length + 1) * 8 ≤ 140737488355328
              omega)]
          | false =>
            rw [br_ff, if_neg (by decide)]
            cases hkn : known L q with
            | true => rw [br_tt, if_pos rfl]; rfl
            | false =>
              rw [br_ff, br_pos hpl, br_eq' (by omega), hnew hkn, if_neg (by decide)]
              rfl
      cases h1 : D.sy (L.getD i pw0).1 x || D.st (D.nxt (L.getD i pw0).1 x) with
      | true =>
        rw [h1, if_pos rfl] at h
        cases h
        exact .now fun m => by rw [key, h1, if_pos rfl]
      | false =>
        rw [h1, if_neg (by decide)] at h
        rw [Bool.or_eq_false_iff] at h1
        cases h2 : known L (D.nxt (L.getD i pw0).1 x) with
        | true =>
          rw [h2, if_pos rfl] at h
          exact .step (fun m => by rw [key, h1.1, h1.2, h2, Bool.or_false, if_neg (by decide), if_pos rfl]) (search_run A B s K0 n i (x + 1) L o r h I W hi (by omega))
        | false =>
          rw [h2, if_neg (by decide)] at h
          refine .step (fun m => by rw [key, h1.1, h1.2, h2, Bool.or_false, if_neg (by decide), if_neg (by decide)]) ?_
          have ih := search_run A B s K0 n i (x + 1) _ _ r h (I.push F hi hx' h1.2 h2) (W.push hm h2 x) (by simp; omega) (by omega)
          rw [List.map_append, getD_snoc, if_pos hi] at ih
          exact ih
    · rw [if_neg c] at h
      have hrow : (L.map (·.1)).length = L.length := List.length_map _
      have key : ∀ m, (run_differ_search K0 (m + 1)).2 i D.K x D.k D.K O D.N D.nx D.ou D.k D.K O' D.M D.nx' D.ou' s.1 s.2 o (L.map (·.1)) 0 0 [] (L.getD i pw0).1.1 (L.getD i pw0).1.2 =
          (run_differ_search K0 m).1 ((i + 1 : Nat) : Int) D.k D.K O D.N D.nx D.ou D.k D.K O' D.M D.nx' D.ou' s.1 s.2 o (L.map (·.1)) 0 0 [] := by
        intro m
        show s_differ_search_13 _ _ _ _ _ _ _ _ _ _ _ _ _ _ _ _ _ _ _ _ _ _ _ _ _ _ _ = _
        unfold s_differ_search_13
        rw [br_neg c, wr _ (by omega) (by omega)]
        rfl
      refine .step key ?_
      by_cases h3 : i + 1 < L.length
      · rw [if_pos h3] at h
        refine .step (fun m => ?_) (search_run A B s K0 n (i + 1) 0 L o r h I W h3 (by omega))
        show s_differ_search_9 (run_differ_search K0 m).1 (run_differ_search K0 m).2 K0 _ _ _ _ _ _ _ _ _ _ _ _ _ _ _ _ _ _ _ _ = _
        unfold s_differ_search_9
        rw [hrow, br_eq' (by omega), br_pos (by omega), Int.toNat_natCast, rows_get]
        rfl
      · rw [if_neg h3] at h
        cases h
        refine .now fun m => ?_
        show s_differ_search_9 (run_differ_search K0 m).1 (run_differ_search K0 m).2 K0 _ _ _ _ _ _ _ _ _ _ _ _ _ _ _ _ _ _ _ _ = _
        unfold s_differ_search_9
        rw [hrow, br_eq (by omega)]

theorem ok_differ_search {R : Type} (a : Int) (a_1 : Int) (a_2 : Int) (a_3 : Int) (a_4 : List Int) (a_5 : List Int) (b : Int) (b_1 : Int) (b_2 : Int) (b_3 : Int) (b_4 : List Int) (b_5 : List Int) (start : Int) (start_1 : Int) (K0 : Bool → (List Int) → Option R) {r : R} (h : l_differ_search a a_1 a_2 a_3 a_4 a_5 b b_1 b_2 b_3 b_4 b_5 start start_1 K0 = some r) : ∃ fuel, e_differ_search (run_differ_search K0 fuel).1 (run_differ_search K0 fuel).2 K0 a a_1 a_2 a_3 a_4 a_5 b b_1 b_2 b_3 b_4 b_5 start start_1 = some r := by
  unfold l_differ_search at h
  rcases bi_some h with ⟨hs, h'⟩ | ⟨_, h'⟩
  · obtain ⟨h1, h2, rfl, rfl, h3, h4⟩ := of_decide_eq_true hs
    have A := checkR_fine.1 h1
    have B := checkR_fine.1 h2
    rw [← h']
    generalize hD : (⟨a, a_1, a_3, b_3, a_4, a_5, b_4, b_5⟩ : Duo) = D
    have F : D.Fine := by subst hD; exact ⟨⟨_, A⟩, ⟨_, B⟩⟩
    have hin : D.inn (start, start_1) := by subst hD; exact ⟨h3, h4⟩
    have go : D.st (start, start_1) = false → Reach (fun m => (run_differ_search K0 m).1 0 a a_1 a_2 a_3 a_4 a_5 a a_1 b_2 b_3 b_4 b_5 start start_1 (mput (.pr (.int .i64) (.int .i64)) (.pr (.pr (.int .i64) (.int .i64)) (.int .i64)) (start, start_1) ((0, 0), 0) ([] : List ((Int × Int) × ((Int × Int) × Int)))) [(start, start_1)] 0 0 ([] : List Int)) (K0 (searchS D (start, start_1)).1 (searchS D (start, start_1)).2) := fun hst => by
      have := search_run (D := D) (O := a_2) (O' := b_2) (by subst hD; exact A) (by subst hD; exact B) (start, start_1) K0 _ 0 0 _ _ _ (searchS_run F hin hst) (Inv.start hin hst) (Ways.start (start, start_1) ((0, 0), 0)) (by simp) (by omega)
      refine .step (fun m => ?_) this
      subst hD
      rw [show (run_differ_search K0 (m + 1)).1 = s_differ_search_9 (run_differ_search K0 m).1 (run_differ_search K0 m).2 K0 from rfl]
      unfold s_differ_search_9
      rw [br_eq' (by simp), br_pos (by simp)]
      rfl
    unfold e_differ_search
    rcases A.fk with hk | hk
    · have g1 := A.fou1 hk
      have g2 := B.fou1 hk
      have hs : D.st (start, start_1) = (a_5.getD start.toNat 0 != b_5.getD start_1.toNat 0) := by subst hD; unfold Duo.st; rw [hk]; rfl
      cases hst : D.st (start, start_1) with
      | true =>
        refine ⟨0, ?_⟩
        rw [br_eq hk, br_pos (by omega), br_pos (by omega), ← hs, hst, br_tt]
        unfold searchS
        rw [if_pos hst]
        try rfl
      | false =>
        obtain ⟨n, hn⟩ := (go hst).get
        refine ⟨n, ?_⟩
        rw [br_eq hk, br_pos (by omega), br_pos (by omega), ← hs, hst, br_ff]
        exact hn
    · have hst : D.st (start, start_1) = false := by subst hD; unfold Duo.st; rw [hk]; rfl
      obtain ⟨n, hn⟩ := (go hst).get
      refine ⟨n, ?_⟩
      rw [br_eq' (by omega)]
      exact hn
  · cases h'

theorem search_eq {R : Type} {D : Duo} {O O' : Int} (A : Fine D.k D.K O D.N D.nx D.ou) (B : Fine D.k D.K O' D.M D.nx' D.ou') {s : Int × Int} (hs : D.inn s) (K0 : Bool → List Int → Option R) :
    l_differ_search D.k D.K O D.N D.nx D.ou D.k D.K O' D.M D.nx' D.ou' s.1 s.2 K0 = K0 (searchS D s).1 (searchS D s).2 := by
  unfold l_differ_search
  rw [br_pos ⟨checkR_fine.2 A, checkR_fine.2 B, rfl, rfl, hs⟩]

/-- tutor/differ.Separate -/
def l_differ_Separate {R : Type} (a : Int) (a_1 : Int) (a_2 : Int) (a_3 : Int) (a_4 : List Int) (a_5 : List Int) (b : Int) (b_1 : Int) (b_2 : Int) (b_3 : Int) (b_4 : List Int) (b_5 : List Int) (K0 : Bool → Int → (List Int) → Option R) : Option R :=
  l_differ_fit a a_1 a_2 a_3 a_4 a_5 b b_1 b_2 b_3 b_4 b_5
   (fun r1 =>
    bi (r1 != 0)
     (K0 false r1 ([] : List Int))
     (l_differ_search a a_1 a_2 a_3 a_4 a_5 b b_1 b_2 b_3 b_4 b_5 0 0
      (fun r2 r3 =>
       K0 r2 0 r3)))

/-- The document's answer, for two machines. -/
def sepS (k K O N : Int) (nx ou : List Int) (k' K' O' N' : Int) (nx' ou' : List Int) : Bool × Int × List Int :=
  if fitS k K O N nx ou k' K' O' N' nx' ou' ≠ 0 then (false, fitS k K O N nx ou k' K' O' N' nx' ou', []) else
    ((searchS ⟨k, K, N, N', nx, ou, nx', ou'⟩ (0, 0)).1, 0, (searchS ⟨k, K, N, N', nx, ou, nx', ou'⟩ (0, 0)).2)

theorem fitS_zero {k K O N : Int} {nx ou : List Int} {k' K' O' N' : Int} {nx' ou' : List Int} (h1 : okL nx) (h2 : okL ou) (h3 : okL nx') (h4 : okL ou') :
    fitS k K O N nx ou k' K' O' N' nx' ou' = 0 ↔ Fine k K O N nx ou ∧ Fine k' K' O' N' nx' ou' ∧ k = k' ∧ K = K' ∧ O = O' := by
  unfold fitS
  rw [checkS_eq h1 h2, checkS_eq h3 h4, ← checkR_fine, ← checkR_fine]
  by_cases c1 : (checkR k K O N nx ou).2 = 0
  · rw [if_neg (by simpa using c1)]
    by_cases c2 : (checkR k' K' O' N' nx' ou').2 = 0
    · rw [if_neg (by simpa using c2)]
      by_cases c3 : k = k'
      · rw [if_neg (by simpa using c3)]
        by_cases c4 : K = K'
        · rw [if_neg (by simpa using c4)]
          by_cases c5 : O = O'
          · rw [if_neg (by simpa using c5)]
            exact ⟨fun _ => ⟨c1, c2, c3, c4, c5⟩, fun _ => rfl⟩
          · rw [if_pos c5]
            exact ⟨fun h => by simp at h, fun h => absurd h.2.2.2.2 c5⟩
        · rw [if_pos c4]
          exact ⟨fun h => by simp at h, fun h => absurd h.2.2.2.1 c4⟩
      · rw [if_pos c3]
        exact ⟨fun h => by simp at h, fun h => absurd h.2.2.1 c3⟩
    · rw [if_pos c2]
      exact ⟨fun h => absurd h c2, fun h => absurd h.2.1 c2⟩
  · rw [if_pos c1]
    exact ⟨fun h => absurd h c1, fun h => absurd h.1 c1⟩

theorem sep_eq {R : Type} {k K O N : Int} {nx ou : List Int} {k' K' O' N' : Int} {nx' ou' : List Int} (h1 : okL nx) (h2 : okL ou) (h3 : okL nx') (h4 : okL ou') (K0 : Bool → Int → List Int → Option R) :
    l_differ_Separate k K O N nx ou k' K' O' N' nx' ou' K0 = K0 (sepS k K O N nx ou k' K' O' N' nx' ou').1 (sepS k K O N nx ou k' K' O' N' nx' ou').2.1 (sepS k K O N nx ou k' K' O' N' nx' ou').2.2 := by
  unfold l_differ_Separate sepS
  rw [fit_eq h1 h2 h3 h4]
  try dsimp only
  by_cases hc : fitS k K O N nx ou k' K' O' N' nx' ou' = 0
  · rw [br_ne' hc, if_neg (by simpa using hc)]
    obtain ⟨A, B, rfl, rfl, rfl⟩ := (fitS_zero h1 h2 h3 h4).1 hc
    have := A.fN
    have := B.fN
    exact search_eq (D := ⟨k, K, N, N', nx, ou, nx', ou'⟩) (s := (0, 0)) A B ⟨by dsimp only; omega, by dsimp only; omega⟩ _
  · rw [br_ne hc, if_pos (by simpa using hc)]

theorem sepS_short {k K O N : Int} {nx ou : List Int} {k' K' O' N' : Int} {nx' ou' : List Int} (h1 : okL nx) (h2 : okL ou) (h3 : okL nx') (h4 : okL ou') : short (sepS k K O N nx ou k' K' O' N' nx' ou').2.2 := by
  unfold sepS
  by_cases hc : fitS k K O N nx ou k' K' O' N' nx' ou' = 0
  · rw [if_neg (by simpa using hc)]
    obtain ⟨A, B, rfl, rfl, rfl⟩ := (fitS_zero h1 h2 h3 h4).1 hc
    have := A.fN
    have := B.fN
    exact searchS_short (D := ⟨k, K, N, N', nx, ou, nx', ou'⟩) (s := (0, 0)) ⟨⟨_, A⟩, ⟨_, B⟩⟩ ⟨by dsimp only; omega, by dsimp only; omega⟩
  · rw [if_pos hc]
    exact (by decide : short ([] : List Int))
theorem sepS_len {k K O N : Int} {nx ou : List Int} {k' K' O' N' : Int} {nx' ou' : List Int} (h1 : okL nx) (h2 : okL ou) (h3 : okL nx') (h4 : okL ou') : (sepS k K O N nx ou k' K' O' N' nx' ou').2.2.length ≤ 1048576 := by
  unfold sepS
  by_cases hc : fitS k K O N nx ou k' K' O' N' nx' ou' = 0
  · rw [if_neg (by simpa using hc)]
    obtain ⟨A, B, rfl, rfl, rfl⟩ := (fitS_zero h1 h2 h3 h4).1 hc
    have a1 := A.fN
    have b1 := B.fN
    have := searchS_len (D := ⟨k, K, N, N', nx, ou, nx', ou'⟩) (s := (0, 0)) ⟨⟨_, A⟩, ⟨_, B⟩⟩ ⟨by dsimp only; omega, by dsimp only; omega⟩
    have m := mul_most a1 b1
    dsimp only at this ⊢
    omega
  · rw [if_pos hc]
    exact Nat.zero_le _

/-- tutor/teach.Tell -/
def l_teach_Tell {R : Type} (m : Int) (m_1 : Int) (m_2 : Int) (m_3 : Int) (m_4 : List Int) (m_5 : List Int) (q : Int) (q_1 : List Int) (q_2 : Int) (q_3 : Int) (q_4 : Int) (q_5 : Int) (q_6 : List Int) (q_7 : List Int) (K0 : Int → Int → (List Int) → (List Int) → Option R) : Option R :=
  l_machine_Check m m_1 m_2 m_3 m_4 m_5
   (fun r1 r2 =>
    bi (r2 != 0)
     (K0 0 r2 ([] : List Int) ([] : List Int))
     (bi (q == 1)
      (l_machine_Run m m_1 m_2 m_3 m_4 m_5 q_1
       (fun r3 r4 =>
        bi (r3 != 0)
         (K0 0 r3 ([] : List Int) ([] : List Int))
         (K0 1 0 r4 ([] : List Int))))
      (bi (q == 2)
       (l_differ_Separate m m_1 m_2 m_3 m_4 m_5 q_2 q_3 q_4 q_5 q_6 q_7
        (fun r5 r6 r7 =>
         bi (r6 != 0)
          (K0 0 r6 ([] : List Int) ([] : List Int))
          (bi r5
           (K0 3 0 ([] : List Int) r7)
           (K0 2 0 ([] : List Int) ([] : List Int)))))
       (K0 0 30 ([] : List Int) ([] : List Int)))))

/-- What a teacher answers: kind, error, output, word. -/
def tellS (k K O N : Int) (nx ou : List Int) (q : Int) (w : List Int) (k' K' O' N' : Int) (nx' ou' : List Int) : Int × Int × List Int × List Int :=
  if (checkR k K O N nx ou).2 ≠ 0 then (0, (checkR k K O N nx ou).2, [], [])
  else if q = 1 then (if (fromS k K O N nx ou 0 w).2.1 ≠ 0 then (0, (fromS k K O N nx ou 0 w).2.1, [], []) else (1, 0, (fromS k K O N nx ou 0 w).2.2, []))
  else if q = 2 then (if (sepS k K O N nx ou k' K' O' N' nx' ou').2.1 ≠ 0 then (0, (sepS k K O N nx ou k' K' O' N' nx' ou').2.1, [], [])
    else if (sepS k K O N nx ou k' K' O' N' nx' ou').1 = true then (3, 0, [], (sepS k K O N nx ou k' K' O' N' nx' ou').2.2) else (2, 0, [], []))
  else (0, 30, [], [])

theorem tell_eq {R : Type} {k K O N : Int} {nx ou : List Int} {q : Int} {w : List Int} {k' K' O' N' : Int} {nx' ou' : List Int} (h1 : okL nx) (h2 : okL ou) (h3 : okL nx') (h4 : okL ou') (K0 : Int → Int → List Int → List Int → Option R) :
    l_teach_Tell k K O N nx ou q w k' K' O' N' nx' ou' K0 = K0 (tellS k K O N nx ou q w k' K' O' N' nx' ou').1 (tellS k K O N nx ou q w k' K' O' N' nx' ou').2.1 (tellS k K O N nx ou q w k' K' O' N' nx' ou').2.2.1 (tellS k K O N nx ou q w k' K' O' N' nx' ou').2.2.2 := by
  unfold l_teach_Tell tellS
  rw [check_eq _ _ _ _ _ _ h1.1 h2.1, checkS_eq h1 h2]
  try dsimp only
  by_cases c1 : (checkR k K O N nx ou).2 = 0
  · rw [br_ne' c1, if_neg (by simpa using c1)]
    by_cases c2 : q = 1
    · rw [br_eq c2, if_pos c2]
      unfold l_machine_Run
      rw [from_eq h1 h2]
      try dsimp only
      by_cases c3 : (fromS k K O N nx ou 0 w).2.1 = 0
      · rw [br_ne' c3, if_neg (by simpa using c3)]
      · rw [br_ne c3, if_pos (by simpa using c3)]
    · rw [br_eq' c2, if_neg c2]
      by_cases c3 : q = 2
      · rw [br_eq c3, if_pos c3, sep_eq h1 h2 h3 h4]
        try dsimp only
        by_cases c4 : (sepS k K O N nx ou k' K' O' N' nx' ou').2.1 = 0
        · rw [br_ne' c4, if_neg (by simpa using c4)]
          cases c5 : (sepS k K O N nx ou k' K' O' N' nx' ou').1 with
          | true => rw [br_tt, if_pos rfl]
          | false => rw [br_ff, if_neg (by decide)]
        · rw [br_ne c4, if_pos (by simpa using c4)]
      · rw [br_eq' c3, if_neg c3]
  · rw [br_ne c1, if_pos (by simpa using c1)]

theorem tellS_len {k K O N : Int} {nx ou : List Int} {q : Int} {w : List Int} {k' K' O' N' : Int} {nx' ou' : List Int} (h1 : okL nx) (h2 : okL ou) (h3 : okL nx') (h4 : okL ou') :
    (tellS k K O N nx ou q w k' K' O' N' nx' ou').2.2.1.length ≤ 4096 ∧ (tellS k K O N nx ou q w k' K' O' N' nx' ou').2.2.2.length ≤ 1048576 := by
  have hs := sepS_len (k := k) (K := K) (O := O) (N := N) (nx := nx) (ou := ou) (k' := k') (K' := K') (O' := O') (N' := N') h1 h2 h3 h4
  have hf := from_short (k := k) (K := K) (O := O) (N := N) (nx := nx) (ou := ou) (s := 0) (w := w)
  unfold tellS
  repeat' split
  all_goals
    dsimp only [List.length_nil]
    omega

/-- tutor/tutorref03.Check -/
def s_tutorref03_Check_15 {R : Type} (g26_15 : Int → Int → Int → Int → Int → (List Int) → (List Int) → Option R) (g26_20 : Int → Int → Int → Int → Int → (List Int) → (List Int) → Option R) (K0 : Int → Int → Option R) (i : Int) (o0 : Int) (o0_1 : Int) (o0_2 : Int) (o0_3 : Int) (o0_4 : List Int) (o0_5 : List Int) : Option R :=
  bi (decide (i < (o0_4.length : Int)))
   (bi (decide (0 ≤ i ∧ i < ((o0_4.length : Nat) : Int)))
    (bi (decide ((o0_4.getD i.toNat 0) < 0))
     (K0 i 32)
     (bi (decide (0 ≤ i ∧ i < ((o0_4.length : Nat) : Int)))
      (bi (decide ((o0_4.getD i.toNat 0) ≥ o0_3))
       (K0 i 32)
       (g26_15 (IntKind.i64.wrap (i + 1)) o0 o0_1 o0_2 o0_3 o0_4 o0_5))
      none))
    none)
   (g26_20 0 o0 o0_1 o0_2 o0_3 o0_4 o0_5)

/-- tutor/tutorref03.Check -/
def s_tutorref03_Check_20 {R : Type} (g26_15 : Int → Int → Int → Int → Int → (List Int) → (List Int) → Option R) (g26_20 : Int → Int → Int → Int → Int → (List Int) → (List Int) → Option R) (K0 : Int → Int → Option R) (i : Int) (o0 : Int) (o0_1 : Int) (o0_2 : Int) (o0_3 : Int) (o0_4 : List Int) (o0_5 : List Int) : Option R :=
  bi (decide (i < (o0_5.length : Int)))
   (bi (decide (0 ≤ i ∧ i < ((o0_5.length : Nat) : Int)))
    (bi (decide ((o0_5.getD i.toNat 0) < 0))
     (K0 i 33)
     (bi (decide (0 ≤ i ∧ i < ((o0_5.length : Nat) : Int)))
      (bi (decide ((o0_5.getD i.toNat 0) ≥ o0_2))
       (K0 i 33)
       (g26_20 (IntKind.i64.wrap (i + 1)) o0 o0_1 o0_2 o0_3 o0_4 o0_5))
      none))
    none)
   (K0 0 0)

/-- tutor/tutorref03.Check -/
def e_tutorref03_Check {R : Type} (g26_15 : Int → Int → Int → Int → Int → (List Int) → (List Int) → Option R) (g26_20 : Int → Int → Int → Int → Int → (List Int) → (List Int) → Option R) (K0 : Int → Int → Option R) (m : Int) (m_1 : Int) (m_2 : Int) (m_3 : Int) (m_4 : List Int) (m_5 : List Int) : Option R :=
  bi (m != 1)
   (bi (m != 2)
    (K0 0 30)
    (bi (decide (m_1 < 1))
     (K0 0 1)
     (bi (decide (m_1 > 64))
      (K0 0 1)
      (bi (m == 1)
       (bi (m_2 != 2)
        (K0 0 33)
        (bi (decide (m_2 < 1))
         (K0 0 33)
         (bi (decide (m_2 > 64))
          (K0 0 33)
          (bi (decide (m_3 < 1))
           (K0 0 3)
           (bi (decide (m_3 > 1024))
            (K0 0 3)
            (bi (m == 2)
             (bi ((m_4.length : Int) != (IntKind.i64.wrap (m_3 * m_1)))
              (K0 0 31)
              (bi ((m_5.length : Int) != (IntKind.i64.wrap (m_3 * m_1)))
               (K0 0 31)
               (g26_15 0 m m_1 m_2 m_3 m_4 m_5)))
             (bi ((m_4.length : Int) != (IntKind.i64.wrap (m_3 * m_1)))
              (K0 0 31)
              (bi ((m_5.length : Int) != m_3)
               (K0 0 31)
               (g26_15 0 m m_1 m_2 m_3 m_4 m_5)))))))))
       (bi (decide (m_2 < 1))
        (K0 0 33)
        (bi (decide (m_2 > 64))
         (K0 0 33)
         (bi (decide (m_3 < 1))
          (K0 0 3)
          (bi (decide (m_3 > 1024))
           (K0 0 3)
           (bi (m == 2)
            (bi ((m_4.length : Int) != (IntKind.i64.wrap (m_3 * m_1)))
             (K0 0 31)
             (bi ((m_5.length : Int) != (IntKind.i64.wrap (m_3 * m_1)))
              (K0 0 31)
              (g26_15 0 m m_1 m_2 m_3 m_4 m_5)))
            (bi ((m_4.length : Int) != (IntKind.i64.wrap (m_3 * m_1)))
             (K0 0 31)
             (bi ((m_5.length : Int) != m_3)
              (K0 0 31)
              (g26_15 0 m m_1 m_2 m_3 m_4 m_5))))))))))))
   (bi (decide (m_1 < 1))
    (K0 0 1)
    (bi (decide (m_1 > 64))
     (K0 0 1)
     (bi (m == 1)
      (bi (m_2 != 2)
       (K0 0 33)
       (bi (decide (m_2 < 1))
        (K0 0 33)
        (bi (decide (m_2 > 64))
         (K0 0 33)
         (bi (decide (m_3 < 1))
          (K0 0 3)
          (bi (decide (m_3 > 1024))
           (K0 0 3)
           (bi (m == 2)
            (bi ((m_4.length : Int) != (IntKind.i64.wrap (m_3 * m_1)))
             (K0 0 31)
             (bi ((m_5.length : Int) != (IntKind.i64.wrap (m_3 * m_1)))
              (K0 0 31)
              (g26_15 0 m m_1 m_2 m_3 m_4 m_5)))
            (bi ((m_4.length : Int) != (IntKind.i64.wrap (m_3 * m_1)))
             (K0 0 31)
             (bi ((m_5.length : Int) != m_3)
              (K0 0 31)
              (g26_15 0 m m_1 m_2 m_3 m_4 m_5)))))))))
      (bi (decide (m_2 < 1))
       (K0 0 33)
       (bi (decide (m_2 > 64))
        (K0 0 33)
        (bi (decide (m_3 < 1))
         (K0 0 3)
         (bi (decide (m_3 > 1024))
          (K0 0 3)
          (bi (m == 2)
           (bi ((m_4.length : Int) != (IntKind.i64.wrap (m_3 * m_1)))
            (K0 0 31)
            (bi ((m_5.length : Int) != (IntKind.i64.wrap (m_3 * m_1)))
             (K0 0 31)
             (g26_15 0 m m_1 m_2 m_3 m_4 m_5)))
           (bi ((m_4.length : Int) != (IntKind.i64.wrap (m_3 * m_1)))
            (K0 0 31)
            (bi ((m_5.length : Int) != m_3)
             (K0 0 31)
             (g26_15 0 m m_1 m_2 m_3 m_4 m_5)))))))))))

def run_tutorref03_Check {R : Type} (K0 : Int → Int → Option R) : Nat → (Int → Int → Int → Int → Int → (List Int) → (List Int) → Option R) × (Int → Int → Int → Int → Int → (List Int) → (List Int) → Option R)
  | 0 => (fun _ _ _ _ _ _ _ => none, fun _ _ _ _ _ _ _ => none)
  | n + 1 => (s_tutorref03_Check_15 (run_tutorref03_Check K0 n).1 (run_tutorref03_Check K0 n).2 K0, s_tutorref03_Check_20 (run_tutorref03_Check K0 n).1 (run_tutorref03_Check K0 n).2 K0)

def l_tutorref03_Check {R : Type} (k K O N : Int) (nx ou : List Int) (K0 : Int → Int → Option R) : Option R :=
  bi (decide (short nx ∧ short ou)) (K0 (checkR k K O N nx ou).1 (checkR k K O N nx ou).2) none

theorem checkR_head {R : Type} (g1 g2 : Int → Int → Int → Int → Int → List Int → List Int → Option R) (K0 : Int → Int → Option R) (k K O N : Int) (nx ou : List Int) :
    e_tutorref03_Check g1 g2 K0 k K O N nx ou = if headS k K O N nx ou = 0 then g1 0 k K O N nx ou else K0 0 (headS k K O N nx ou) := by
  have L0 : headS k K O N nx ou = 0 → g1 0 k K O N nx ou = if headS k K O N nx ou = 0 then g1 0 k K O N nx ou else K0 0 (headS k K O N nx ou) := fun h => by rw [if_pos h]
  have LK : ∀ c, headS k K O N nx ou = c → c ≠ 0 → K0 0 c = if headS k K O N nx ou = 0 then g1 0 k K O N nx ou else K0 0 (headS k K O N nx ou) := fun c h h0 => by rw [h, if_neg h0]
  unfold e_tutorref03_Check
  simp only [br_if, bne_iff_ne, beq_iff_eq, decide_eq_true_eq, ne_eq]
  by_cases hb : (1 ≤ N ∧ N ≤ 1024) ∧ 1 ≤ K ∧ K ≤ 64
  · have := mulK hb
    rw [wr (N * K) (by omega) (by omega)]
    repeat' (refine ite_l (fun _ => ?_) (fun _ => ?_))
    all_goals first
      | exact LK _ (by unfold headS; repeat' (refine ite_l (fun _ => ?_) (fun _ => ?_)); all_goals omega) (by omega)
      | exact L0 (by unfold headS; repeat' (refine ite_l (fun _ => ?_) (fun _ => ?_)); all_goals omega)
  · repeat' (refine ite_l (fun _ => ?_) (fun _ => ?_))
    all_goals first
      | exact LK _ (by unfold headS; repeat' (refine ite_l (fun _ => ?_) (fun _ => ?_)); all_goals omega) (by omega)
      | exact L0 (by unfold headS; repeat' (refine ite_l (fun _ => ?_) (fun _ => ?_)); all_goals omega)

theorem ok_tutorref03_Check {R : Type} (k K O N : Int) (nx ou : List Int) (K0 : Int → Int → Option R) {r : R} (h : l_tutorref03_Check k K O N nx ou K0 = some r) :
    ∃ fuel, e_tutorref03_Check (run_tutorref03_Check K0 fuel).1 (run_tutorref03_Check K0 fuel).2 K0 k K O N nx ou = some r := by
  unfold l_tutorref03_Check at h
  rcases bi_some h with ⟨hs, h⟩ | ⟨_, h⟩
  · obtain ⟨h1, h2⟩ : nx.length < 4611686018427387904 ∧ ou.length < 4611686018427387904 := of_decide_eq_true hs
    refine ⟨ou.length + 1 + (nx.length + 1), ?_⟩
    rw [← h, checkR_head]
    unfold checkR
    by_cases hh : headS k K O N nx ou = 0
    · rw [if_pos hh, if_neg (by simpa using hh)]
      have key2 : ∀ n, (run_tutorref03_Check K0 (n + (ou.length + 1))).2 0 k K O N nx ou = match findP (outside O) ou with | some i => K0 (i : Int) 33 | none => K0 0 0 := fun n =>
        scan_all (F := fun m i => (run_tutorref03_Check K0 (n + m)).2 (i : Int) k K O N nx ou) (outside O) (l := ou) (A := fun i => K0 i 33) (B := K0 0 0)
          (fun m => by
            show s_tutorref03_Check_20 (run_tutorref03_Check K0 (n + m)).1 (run_tutorref03_Check K0 (n + m)).2 K0 _ _ _ _ _ _ _ = _
            unfold s_tutorref03_Check_20
            rw [br_neg (by omega)])
          (fun m i hi => by
            show s_tutorref03_Check_20 (run_tutorref03_Check K0 (n + m)).1 (run_tutorref03_Check K0 (n + m)).2 K0 _ _ _ _ _ _ _ = _
            unfold s_tutorref03_Check_20
            rw [br_pos (by omega), br_pos (by omega), br_pos (p := 0 ≤ (i : Int) ∧ (i : Int) < ((ou.length : Nat) : Int)) (by omega), Int.toNat_natCast, getD_of 0 hi, wr _ (by omega) (by omega)]
            unfold outside
            cases decide (ou[i] < 0) <;> cases decide (ou[i] ≥ O) <;> rfl)
      have key1 := scan_all (F := fun m i => (run_tutorref03_Check K0 (ou.length + 1 + m)).1 (i : Int) k K O N nx ou) (outside N) (l := nx) (A := fun i => K0 i 32)
        (B := match findP (outside O) ou with | some i => K0 (i : Int) 33 | none => K0 0 0)
          (fun m => by
            show s_tutorref03_Check_15 (run_tutorref03_Check K0 (ou.length + 1 + m)).1 (run_tutorref03_Check K0 (ou.length + 1 + m)).2 K0 _ _ _ _ _ _ _ = _
            unfold s_tutorref03_Check_15
            rw [br_neg (by omega)]
            have := key2 m
            rwa [show m + (ou.length + 1) = ou.length + 1 + m by omega] at this)
          (fun m i hi => by
            show s_tutorref03_Check_15 (run_tutorref03_Check K0 (ou.length + 1 + m)).1 (run_tutorref03_Check K0 (ou.length + 1 + m)).2 K0 _ _ _ _ _ _ _ = _
            unfold s_tutorref03_Check_15
            rw [br_pos (by omega), br_pos (by omega), br_pos (p := 0 ≤ (i : Int) ∧ (i : Int) < ((nx.length : Nat) : Int)) (by omega), Int.toNat_natCast, getD_of 0 hi, wr _ (by omega) (by omega)]
            unfold outside
            cases decide (nx[i] < 0) <;> cases decide (nx[i] ≥ N) <;> rfl)
      refine key1.trans ?_
      cases findP (outside N) nx with
      | some i => rfl
      | none => cases findP (outside O) ou <;> rfl
    · rw [if_neg hh, if_pos (by simpa using hh)]
  · cases h

/-- tutor/tutorref07.now -/
def l_tutorref07_now {R : Type} (a : Int) (a_1 : Int) (a_2 : Int) (a_3 : Int) (a_4 : List Int) (a_5 : List Int) (b : Int) (b_1 : Int) (b_2 : Int) (b_3 : Int) (b_4 : List Int) (b_5 : List Int) (s : Int) (t : Int) (x : Int) (K0 : Bool → Option R) : Option R :=
  bi (a == 1)
   (bi (decide (x < 0))
    (bi (decide (0 ≤ s ∧ s < ((a_5.length : Nat) : Int)))
     (bi (decide (0 ≤ t ∧ t < ((b_5.length : Nat) : Int)))
      (K0 ((a_5.getD s.toNat 0) != (b_5.getD t.toNat 0)))
      none)
     none)
    (K0 false))
   (bi (decide (x ≥ 0))
    (bi (decide (0 ≤ (IntKind.i64.wrap ((IntKind.i64.wrap (s * a_1)) + x)) ∧ (IntKind.i64.wrap ((IntKind.i64.wrap (s * a_1)) + x)) < ((a_5.length : Nat) : Int)))
     (bi (decide (0 ≤ (IntKind.i64.wrap ((IntKind.i64.wrap (t * b_1)) + x)) ∧ (IntKind.i64.wrap ((IntKind.i64.wrap (t * b_1)) + x)) < ((b_5.length : Nat) : Int)))
      (K0 ((a_5.getD ((IntKind.i64.wrap ((IntKind.i64.wrap (s * a_1)) + x)).toNat) 0) != (b_5.getD ((IntKind.i64.wrap ((IntKind.i64.wrap (t * b_1)) + x)).toNat) 0)))
      none)
     none)
    (K0 false))

theorem now_st {R : Type} {D : Duo} {O O' : Int} (A : Fine D.k D.K O D.N D.nx D.ou) (B : Fine D.k D.K O' D.M D.nx' D.ou') {p : Int × Int} (hp : D.inn p) (K0 : Bool → Option R) :
    l_tutorref07_now D.k D.K O D.N D.nx D.ou D.k D.K O' D.M D.nx' D.ou' p.1 p.2 (-1) K0 = K0 (D.st p) := by
  unfold l_tutorref07_now Duo.st
  have h1 := hp.1
  have h2 := hp.2
  rcases A.fk with h | h
  · have := A.fou1 h
    have := B.fou1 h
    rw [br_eq h, br_pos (by omega), br_pos (by omega), br_pos (by omega), h]
    rfl
  · rw [br_eq' (by omega), br_neg (by omega), h]
    rfl
theorem now_sy {R : Type} {D : Duo} {O O' : Int} (A : Fine D.k D.K O D.N D.nx D.ou) (B : Fine D.k D.K O' D.M D.nx' D.ou') {p : Int × Int} (hp : D.inn p) {x : Int} (hx : 0 ≤ x ∧ x < D.K) (K0 : Bool → Option R) :
    l_tutorref07_now D.k D.K O D.N D.nx D.ou D.k D.K O' D.M D.nx' D.ou' p.1 p.2 x K0 = K0 (D.sy p x) := by
  unfold l_tutorref07_now Duo.sy
  have h1 := idx_in hp.1 hx
  have h2 := idx_in hp.2 hx
  have := mulK ⟨A.fN, A.fK⟩
  have := mulK ⟨B.fN, B.fK⟩
  rcases A.fk with h | h
  · rw [br_eq h, br_neg (by omega), h]
    rfl
  · have := A.fou2 h
    have := B.fou2 h
    rw [br_eq' (by omega), br_pos (by omega), wr (p.1 * D.K) (by omega) (by omega), wr (p.2 * D.K) (by omega) (by omega), wr (p.1 * D.K + x) (by omega) (by omega), wr (p.2 * D.K + x) (by omega) (by omega), br_pos (by omega), br_pos (by omega), h]
    rfl

/-- tutor/tutorref01.Join -/
def l_tutorref01_Join {R : Type} (a : List Int) (b : List Int) (K0 : (List Int) → Option R) : Option R :=
  bi (decide ((([] : List Int).length + a.length) * 8 ≤ lim))
   (bi (decide (((([] : List Int) ++ a).length + b.length) * 8 ≤ lim))
    (K0 ((([] : List Int) ++ a) ++ b))
    none)
   none

theorem join_eq {R : Type} {a b : List Int} (h : a.length + b.length ≤ 1000000000) (K0 : List Int → Option R) : l_tutorref01_Join a b K0 = K0 (a ++ b) := by
  unfold l_tutorref01_Join
  rw [br_pos (by simp [lim]; omega), br_pos (by simp [lim]; omega)]
  rfl

/-- tutor/tutorref07.search -/
def s_tutorref07_search_8 {R : Type} (g27_8 : Int → Int → Int → Int → Int → (List Int) → (List Int) → Int → Int → Int → Int → (List Int) → (List Int) → (List Bool) → (List (List Int)) → (List Int) → Option R) (g27_12 : Int → Int → Int → Int → Int → Int → Int → Int → (List Int) → (List Int) → Int → Int → Int → Int → (List Int) → (List Int) → (List Bool) → (List (List Int)) → (List Int) → Option R) (K0 : Bool → (List Int) → Option R) (i : Int) (o0 : Int) (o0_1 : Int) (o0_2 : Int) (o0_3 : Int) (o0_4 : List Int) (o0_5 : List Int) (o1 : Int) (o1_1 : Int) (o1_2 : Int) (o1_3 : Int) (o1_4 : List Int) (o1_5 : List Int) (o2 : List Bool) (o3 : List (List Int)) (o4 : List Int) : Option R :=
  bi (decide (i < (o3.length : Int)))
   (bi (decide (0 ≤ i ∧ i < ((o4.length : Nat) : Int)))
    (bi (decide (o1_3 = 0))
     none
     (bi (decide (0 ≤ i ∧ i < ((o4.length : Nat) : Int)))
      (bi (decide (o1_3 = 0))
       none
       (g27_12 i (IntKind.i64.wrap ((o4.getD i.toNat 0).tdiv o1_3)) ((o4.getD i.toNat 0).tmod o1_3) 0 o0 o0_1 o0_2 o0_3 o0_4 o0_5 o1 o1_1 o1_2 o1_3 o1_4 o1_5 o2 o3 o4))
      none))
    none)
   (K0 false ([] : List Int))

/-- tutor/tutorref07.search -/
def s_tutorref07_search_12 {R : Type} (g27_8 : Int → Int → Int → Int → Int → (List Int) → (List Int) → Int → Int → Int → Int → (List Int) → (List Int) → (List Bool) → (List (List Int)) → (List Int) → Option R) (g27_12 : Int → Int → Int → Int → Int → Int → Int → Int → (List Int) → (List Int) → Int → Int → Int → Int → (List Int) → (List Int) → (List Bool) → (List (List Int)) → (List Int) → Option R) (K0 : Bool → (List Int) → Option R) (i : Int) (s : Int) (t : Int) (x : Int) (o0 : Int) (o0_1 : Int) (o0_2 : Int) (o0_3 : Int) (o0_4 : List Int) (o0_5 : List Int) (o1 : Int) (o1_1 : Int) (o1_2 : Int) (o1_3 : Int) (o1_4 : List Int) (o1_5 : List Int) (o2 : List Bool) (o3 : List (List Int)) (o4 : List Int) : Option R :=
  bi (decide (x < o0_1))
   (bi (decide (0 ≤ i ∧ i < ((o3.length : Nat) : Int)))
    (l_tutorref01_Join (o3.getD i.toNat []) [x]
     (fun r2 =>
      bi (decide (0 ≤ (IntKind.i64.wrap ((IntKind.i64.wrap (s * o0_1)) + x)) ∧ (IntKind.i64.wrap ((IntKind.i64.wrap (s * o0_1)) + x)) < ((o0_4.length : Nat) : Int)))
       (bi (decide (0 ≤ (IntKind.i64.wrap ((IntKind.i64.wrap (t * o1_1)) + x)) ∧ (IntKind.i64.wrap ((IntKind.i64.wrap (t * o1_1)) + x)) < ((o1_4.length : Nat) : Int)))
        (l_tutorref07_now o0 o0_1 o0_2 o0_3 o0_4 o0_5 o1 o1_1 o1_2 o1_3 o1_4 o1_5 s t x
         (fun r3 =>
          bi r3
           (K0 true r2)
           (l_tutorref07_now o0 o0_1 o0_2 o0_3 o0_4 o0_5 o1 o1_1 o1_2 o1_3 o1_4 o1_5 (o0_4.getD ((IntKind.i64.wrap ((IntKind.i64.wrap (s * o0_1)) + x)).toNat) 0) (o1_4.getD ((IntKind.i64.wrap ((IntKind.i64.wrap (t * o1_1)) + x)).toNat) 0) (-1)
            (fun r4 =>
             bi r4
              (K0 true r2)
              (bi (decide (0 ≤ (IntKind.i64.wrap ((IntKind.i64.wrap ((o0_4.getD ((IntKind.i64.wrap ((IntKind.i64.wrap (s * o0_1)) + x)).toNat) 0) * o1_3)) + (o1_4.getD ((IntKind.i64.wrap ((IntKind.i64.wrap (t * o1_1)) + x)).toNat) 0))) ∧ (IntKind.i64.wrap ((IntKind.i64.wrap ((o0_4.getD ((IntKind.i64.wrap ((IntKind.i64.wrap (s * o0_1)) + x)).toNat) 0) * o1_3)) + (o1_4.getD ((IntKind.i64.wrap ((IntKind.i64.wrap (t * o1_1)) + x)).toNat) 0))) < ((o2.length : Nat) : Int)))
               (bi (!(o2.getD ((IntKind.i64.wrap ((IntKind.i64.wrap ((o0_4.getD ((IntKind.i64.wrap ((IntKind.i64.wrap (s * o0_1)) + x)).toNat) 0) * o1_3)) + (o1_4.getD ((IntKind.i64.wrap ((IntKind.i64.wrap (t * o1_1)) + x)).toNat) 0))).toNat) false))
                (bi (decide (0 ≤ (IntKind.i64.wrap ((IntKind.i64.wrap ((o0_4.getD ((IntKind.i64.wrap ((IntKind.i64.wrap (s * o0_1)) + x)).toNat) 0) * o1_3)) + (o1_4.getD ((IntKind.i64.wrap ((IntKind.i64.wrap (t * o1_1)) + x)).toNat) 0))) ∧ (IntKind.i64.wrap ((IntKind.i64.wrap ((o0_4.getD ((IntKind.i64.wrap ((IntKind.i64.wrap (s * o0_1)) + x)).toNat) 0) * o1_3)) + (o1_4.getD ((IntKind.i64.wrap ((IntKind.i64.wrap (t * o1_1)) + x)).toNat) 0))) < ((o2.length : Nat) : Int)))
                 (bi (decide ((o3.length + [r2].length) * 24 ≤ lim))
                  (bi (decide ((o4.length + [IntKind.i64.wrap ((IntKind.i64.wrap ((o0_4.getD ((IntKind.i64.wrap ((IntKind.i64.wrap (s * o0_1)) + x)).toNat) 0) * o1_3)) + (o1_4.getD ((IntKind.i64.wrap ((IntKind.i64.wrap (t * o1_1)) + x)).toNat) 0))].length) * 8 ≤ lim))
                   (g27_12 i s t (IntKind.i64.wrap (x + 1)) o0 o0_1 o0_2 o0_3 o0_4 o0_5 o1 o1_1 o1_2 o1_3 o1_4 o1_5 (o2.set ((IntKind.i64.wrap ((IntKind.i64.wrap ((o0_4.getD ((IntKind.i64.wrap ((IntKind.i64.wrap (s * o0_1)) + x)).toNat) 0) * o1_3)) + (o1_4.getD ((IntKind.i64.wrap ((IntKind.i64.wrap (t * o1_1)) + x)).toNat) 0))).toNat) true) (o3 ++ [r2]) (o4 ++ [IntKind.i64.wrap ((IntKind.i64.wrap ((o0_4.getD ((IntKind.i64.wrap ((IntKind.i64.wrap (s * o0_1)) + x)).toNat) 0) * o1_3)) + (o1_4.getD ((IntKind.i64.wrap ((IntKind.i64.wrap (t * o1_1)) + x)).toNat) 0))]))
                   none)
                  none)
                 none)
                (g27_12 i s t (IntKind.i64.wrap (x + 1)) o0 o0_1 o0_2 o0_3 o0_4 o0_5 o1 o1_1 o1_2 o1_3 o1_4 o1_5 o2 o3 o4))
               none)))))
        none)
       none))
    none)
   (g27_8 (IntKind.i64.wrap (i + 1)) o0 o0_1 o0_2 o0_3 o0_4 o0_5 o1 o1_1 o1_2 o1_3 o1_4 o1_5 o2 o3 o4)

/-- tutor/tutorref07.search -/
def e_tutorref07_search {R : Type} (g27_8 : Int → Int → Int → Int → Int → (List Int) → (List Int) → Int → Int → Int → Int → (List Int) → (List Int) → (List Bool) → (List (List Int)) → (List Int) → Option R) (g27_12 : Int → Int → Int → Int → Int → Int → Int → Int → (List Int) → (List Int) → Int → Int → Int → Int → (List Int) → (List Int) → (List Bool) → (List (List Int)) → (List Int) → Option R) (K0 : Bool → (List Int) → Option R) (a : Int) (a_1 : Int) (a_2 : Int) (a_3 : Int) (a_4 : List Int) (a_5 : List Int) (b : Int) (b_1 : Int) (b_2 : Int) (b_3 : Int) (b_4 : List Int) (b_5 : List Int) (s : Int) (t : Int) : Option R :=
  l_tutorref07_now a a_1 a_2 a_3 a_4 a_5 b b_1 b_2 b_3 b_4 b_5 s t (-1)
   (fun r1 =>
    bi r1
     (K0 true ([] : List Int))
     (bi (decide (0 ≤ (IntKind.i64.wrap (a_3 * b_3)) ∧ (IntKind.i64.wrap (a_3 * b_3)) ≤ (IntKind.i64.wrap (a_3 * b_3)) ∧ (IntKind.i64.wrap (a_3 * b_3)) ≤ 1073741824))
      (bi (decide (0 ≤ (IntKind.i64.wrap ((IntKind.i64.wrap (s * b_3)) + t)) ∧ (IntKind.i64.wrap ((IntKind.i64.wrap (s * b_3)) + t)) < (((List.replicate (IntKind.i64.wrap (a_3 * b_3)).toNat (false : Bool)).length : Nat) : Int)))
       (g27_8 0 a a_1 a_2 a_3 a_4 a_5 b b_1 b_2 b_3 b_4 b_5 ((List.replicate (IntKind.i64.wrap (a_3 * b_3)).toNat (false : Bool)).set ((IntKind.i64.wrap ((IntKind.i64.wrap (s * b_3)) + t)).toNat) true) [([] : List Int)] [IntKind.i64.wrap ((IntKind.i64.wrap (s * b_3)) + t)])
       none)
      none))

def run_tutorref07_search {R : Type} (K0 : Bool → (List Int) → Option R) : Nat → (Int → Int → Int → Int → Int → (List Int) → (List Int) → Int → Int → Int → Int → (List Int) → (List Int) → (List Bool) → (List (List Int)) → (List Int) → Option R) × (Int → Int → Int → Int → Int → Int → Int → Int → (List Int) → (List Int) → Int → Int → Int → Int → (List Int) → (List Int) → (List Bool) → (List (List Int)) → (List Int) → Option R)
  | 0 => (fun _ _ _ _ _ _ _ _ _ _ _ _ _ _ _ _ => none, fun _ _ _ _ _ _ _ _ _ _ _ _ _ _ _ _ _ _ _ => none)
  | n + 1 => (s_tutorref07_search_8 (run_tutorref07_search K0 n).1 (run_tutorref07_search K0 n).2 K0, s_tutorref07_search_12 (run_tutorref07_search K0 n).1 (run_tutorref07_search K0 n).2 K0)

def l_tutorref07_search {R : Type} (a : Int) (a_1 : Int) (a_2 : Int) (a_3 : Int) (a_4 : List Int) (a_5 : List Int) (b : Int) (b_1 : Int) (b_2 : Int) (b_3 : Int) (b_4 : List Int) (b_5 : List Int) (s : Int) (t : Int) (K0 : Bool → (List Int) → Option R) : Option R :=
  bi (decide ((checkR a a_1 a_2 a_3 a_4 a_5).2 = 0 ∧ (checkR b b_1 b_2 b_3 b_4 b_5).2 = 0 ∧ a = b ∧ a_1 = b_1 ∧ (0 ≤ s ∧ s < a_3) ∧ (0 ≤ t ∧ t < b_3)))
    (K0 (searchS ⟨a, a_1, a_3, b_3, a_4, a_5, b_4, b_5⟩ (s, t)).1 (searchS ⟨a, a_1, a_3, b_3, a_4, a_5, b_4, b_5⟩ (s, t)).2) none

/-- The marks are the row's. -/
structure Marks (D : Duo) (kn : List Bool) (L : List PW) : Prop where
  len : kn.length = (D.N * D.M).toNat
  get : ∀ q, D.inn q → kn.getD (q.1 * D.M + q.2).toNat false = known L q

theorem getD_setB (l : List Bool) (i t : Nat) (x : Bool) : (l.set i x).getD t false = if i = t ∧ i < l.length then x else l.getD t false := by
  rw [List.getD_eq_getElem?_getD, List.getElem?_set, List.getD_eq_getElem?_getD]
  by_cases h : i = t
  · subst h
    by_cases h2 : i < l.length
    · simp [h2]
    · simp [h2]
  · simp [h]

theorem known_snoc (L : List PW) (p q : Int × Int) (w : List Int) : known (L ++ [(p, w)]) q = (known L q || decide (p = q)) := by
  unfold known
  rw [List.any_append]
  congr 1
  rw [Bool.eq_iff_iff]
  simp [Prod.ext_iff]

theorem Marks.push {D : Duo} {kn : List Bool} {L : List PW} (M : Marks D kn L) {p : Int × Int} (hp : D.inn p) (w : List Int) : Marks D (kn.set (p.1 * D.M + p.2).toNat true) (L ++ [(p, w)]) := by
  refine ⟨by rw [List.length_set]; exact M.len, ?_⟩
  intro q hq
  have i1 := pair_in hp
  have i2 := pair_in hq
  have hl := M.len
  rw [getD_setB, known_snoc, M.get q hq]
  by_cases c : p = q
  · subst c
    rw [if_pos ⟨rfl, by omega⟩, decide_eq_true rfl, Bool.or_true]
  · rw [if_neg, decide_eq_false c, Bool.or_false]
    rintro ⟨h, _⟩
    have := pair_inj hp.2 hq.2 (show p.1 * D.M + p.2 = q.1 * D.M + q.2 by omega)
    exact c (Prod.ext this.1 this.2)

theorem words_get (L : List PW) (i : Nat) : (L.map (·.2)).getD i [] = (L.getD i pw0).2 := by
  simp only [List.getD_eq_getElem?_getD, List.getElem?_map]
  cases L[i]? <;> rfl
theorem ats_get (D : Duo) {L : List PW} {i : Nat} (h : i < L.length) : (L.map fun e => e.1.1 * D.M + e.1.2).getD i 0 = (L.getD i pw0).1.1 * D.M + (L.getD i pw0).1.2 := by
  rw [getD_of 0 (by simpa using h), List.getElem_map, getD_of pw0 h]
theorem pair_div {M a b : Int} (ha : 0 ≤ a) (h1 : 0 ≤ b ∧ b < M) : (a * M + b).tdiv M = a ∧ (a * M + b).tmod M = b := by
  have h0 : 0 ≤ a * M := Int.mul_nonneg ha (by omega)
  rw [Int.tdiv_eq_ediv_of_nonneg (by omega), Int.tmod_eq_emod_of_nonneg (by omega)]
  constructor
  · rw [Int.add_comm, Int.add_mul_ediv_right _ _ (by omega), Int.ediv_eq_zero_of_lt h1.1 h1.2]; omega
  · rw [Int.add_comm, Int.add_mul_emod_self_right, Int.emod_eq_of_lt h1.1 h1.2]

theorem rsearch_run {R : Type} {D : Duo} {O O' : Int} (A : Fine D.k D.K O D.N D.nx D.ou) (B : Fine D.k D.K O' D.M D.nx' D.ou') (s : Int × Int) (K0 : Bool → List Int → Option R) :
    ∀ (n i x : Nat) (L : List PW) (kn : List Bool) (r : Bool × List Int), bfs D n i x L = some r → Inv D s L → Marks D kn L → i < L.length → x ≤ D.K.toNat →
    Reach (fun m => (run_tutorref07_search K0 m).2 i (L.getD i pw0).1.1 (L.getD i pw0).1.2 x D.k D.K O D.N D.nx D.ou D.k D.K O' D.M D.nx' D.ou' kn (L.map (·.2)) (L.map fun e => e.1.1 * D.M + e.1.2)) (K0 r.1 r.2)
  | 0, _, _, _, _, _, h, _, _, _, _ => by cases h
  | n + 1, i, x, L, kn, r, h, I, W, hi, hx => by
    have F : D.Fine := ⟨⟨O, A⟩, ⟨O', B⟩⟩
    have hK := A.fK
    have hNK := mulK ⟨A.fN, A.fK⟩
    have hMK := mulK ⟨B.fN, B.fK⟩
    have hNM := mul_most A.fN B.fN
    have hmost := I.most
    have hm : L.getD i pw0 ∈ L := getD_mem hi
    have hp := I.inn _ hm
    have hrow : (L.map (·.2)).length = L.length := List.length_map _
    have hat : (L.map fun e => e.1.1 * D.M + e.1.2).length = L.length := List.length_map _
    unfold bfs at h
    by_cases c : (x : Int) < D.K
    · rw [if_pos c] at h
      have hx' : 0 ≤ (x : Int) ∧ (x : Int) < D.K := ⟨by omega, c⟩
      have i1 := idx_in hp.1 hx'
      have i2 := idx_in hp.2 hx'
      have f1 := A.fnx
      have f2 := B.fnx
      have hq := nxt_inn F hp hx'
      have hlen := I.len i hi
      have key : ∀ m, (run_tutorref07_search K0 (m + 1)).2 i (L.getD i pw0).1.1 (L.getD i pw0).1.2 x D.k D.K O D.N D.nx D.ou D.k D.K O' D.M D.nx' D.ou' kn (L.map (·.2)) (L.map fun e => e.1.1 * D.M + e.1.2) =
          if D.sy (L.getD i pw0).1 x || D.st (D.nxt (L.getD i pw0).1 x) then K0 true ((L.getD i pw0).2 ++ [(x : Int)])
          else if known L (D.nxt (L.getD i pw0).1 x) then (run_tutorref07_search K0 m).2 i (L.getD i pw0).1.1 (L.getD i pw0).1.2 ((x + 1 : Nat) : Int) D.k D.K O D.N D.nx D.ou D.k D.K O' D.M D.nx' D.ou' kn (L.map (·.2)) (L.map fun e => e.1.1 * D.M + e.1.2)
          else (run_tutorref07_search K0 m).2 i (L.getD i pw0).1.1 (L.getD i pw0).1.2 ((x + 1 : Nat) : Int) D.k D.K O D.N D.nx D.ou D.k D.K O' D.M D.nx' D.ou'
            (kn.set ((D.nxt (L.getD i pw0).1 x).1 * D.M + (D.nxt (L.getD i pw0).1 x).2).toNat true) (L.map (·.2) ++ [(L.getD i pw0).2 ++ [(x : Int)]]) ((L.map fun e => e.1.1 * D.M + e.1.2) ++ [(D.nxt (L.getD i pw0).1 x).1 * D.M + (D.nxt (L.getD i pw0).1 x).2]) := by
        intro m
        rw [show (run_tutorref07_search K0 (m + 1)).2 = s_tutorref07_search_12 (run_tutorref07_search K0 m).1 (run_tutorref07_search K0 m).2 K0 from rfl]
        unfold s_tutorref07_search_12
        rw [br_pos c, hrow, br_pos (by omega), Int.toNat_natCast, words_get]
        generalize hP : L.getD i pw0 = P at *
        obtain ⟨⟨p1, p2⟩, w⟩ := P
        dsimp only at hp i1 i2 hq hlen ⊢
        rw [join_eq (by
          show w.length + 1 ≤ 1000000000
          omega)]
        rw [wr (p1 * D.K) (by omega) (by omega), wr (p2 * D.K) (by omega) (by omega), wr (p1 * D.K + x) (by omega) (by omega), wr (p2 * D.K + x) (by omega) (by omega), wr ((x : Int) + 1) (by omega) (by omega)]
        rw [br_pos (by omega), br_pos (by omega)]
        rw [show l_tutorref07_now D.k D.K O D.N D.nx D.ou D.k D.K O' D.M D.nx' D.ou' p1 p2 x _ = _ from now_sy A B (p := (p1, p2)) hp hx' _]
        try dsimp only
        cases hsy : D.sy (p1, p2) x with
        | true => rw [br_tt, Bool.true_or, if_pos rfl]
        | false =>
        rw [br_ff, Bool.false_or]
        rw [show D.nx.getD (p1 * D.K + x).toNat 0 = (D.nxt (p1, p2) x).1 from rfl, show D.nx'.getD (p2 * D.K + x).toNat 0 = (D.nxt (p1, p2) x).2 from rfl]
        generalize hq' : D.nxt (p1, p2) x = q at *
        rw [now_st A B hq]
        try dsimp only
        cases hst : D.st q with
        | true => rw [br_tt, if_pos rfl]
        | false =>
        rw [br_ff, if_neg (by decide)]
        have i3 := pair_in hq
        have i4 : 0 ≤ q.1 * D.M := Int.mul_nonneg hq.1.1 (by have := B.fN; omega)
        have i5 := hq.2.1
        have hl := W.len
        rw [wr (q.1 * D.M) (by omega) (by omega), wr (q.1 * D.M + q.2) (by omega) (by omega), br_pos (by omega), W.get q hq]
        cases hkn : known L q with
        | true =>
          rw [show (!true) = false from rfl, br_ff, if_pos rfl]
          rfl
        | false =>
          rw [show (!false) = true from rfl, br_tt, if_neg (by decide), br_pos (by omega), br_pos (by
            show (L.length + 1) * 24 ≤ 140737488355328
            omega), hat, br_pos (by
            show (L.length + 1) * 8 ≤ 140737488355328
            omega)]
          rfl
      cases h1 : D.sy (L.getD i pw0).1 x || D.st (D.nxt (L.getD i pw0).1 x) with
      | true =>
        rw [h1, if_pos rfl] at h
        cases h
        exact .now fun m => by rw [key, h1, if_pos rfl]
      | false =>
        rw [h1, if_neg (by decide)] at h
        rw [Bool.or_eq_false_iff] at h1
        cases h2 : known L (D.nxt (L.getD i pw0).1 x) with
        | true =>
          rw [h2, if_pos rfl] at h
          exact .step (fun m => by rw [key, h1.1, h1.2, h2, Bool.or_false, if_neg (by decide), if_pos rfl]) (rsearch_run A B s K0 n i (x + 1) L kn r h I W hi (by omega))
        | false =>
          rw [h2, if_neg (by decide)] at h
          refine .step (fun m => by rw [key, h1.1, h1.2, h2, Bool.or_false, if_neg (by decide), if_neg (by decide)]) ?_
          have ih := rsearch_run A B s K0 n i (x + 1) _ _ r h (I.push F hi hx' h1.2 h2) (W.push hq _) (by simp; omega) (by omega)
          rw [List.map_append, List.map_append, getD_snoc, if_pos hi] at ih
          exact ih
    · rw [if_neg c] at h
      have key : ∀ m, (run_tutorref07_search K0 (m + 1)).2 i (L.getD i pw0).1.1 (L.getD i pw0).1.2 x D.k D.K O D.N D.nx D.ou D.k D.K O' D.M D.nx' D.ou' kn (L.map (·.2)) (L.map fun e => e.1.1 * D.M + e.1.2) =
          (run_tutorref07_search K0 m).1 ((i + 1 : Nat) : Int) D.k D.K O D.N D.nx D.ou D.k D.K O' D.M D.nx' D.ou' kn (L.map (·.2)) (L.map fun e => e.1.1 * D.M + e.1.2) := by
        intro m
        rw [show (run_tutorref07_search K0 (m + 1)).2 = s_tutorref07_search_12 (run_tutorref07_search K0 m).1 (run_tutorref07_search K0 m).2 K0 from rfl]
        unfold s_tutorref07_search_12
        rw [br_neg c, wr _ (by omega) (by omega)]
        rfl
      refine .step key ?_
      by_cases h3 : i + 1 < L.length
      · rw [if_pos h3] at h
        have hp2 := I.inn _ (getD_mem (d := pw0) h3)
        have hb := B.fN
        refine .step (fun m => ?_) (rsearch_run A B s K0 n (i + 1) 0 L kn r h I W h3 (by omega))
        rw [show (run_tutorref07_search K0 (m + 1)).1 = s_tutorref07_search_8 (run_tutorref07_search K0 m).1 (run_tutorref07_search K0 m).2 K0 from rfl]
        unfold s_tutorref07_search_8
        have hd := pair_div hp2.1.1 hp2.2
        have hN := A.fN
        rw [hrow, hat, br_pos (by omega), br_pos (by omega), br_neg (by omega), br_pos (by omega), br_neg (by omega), Int.toNat_natCast, ats_get D h3, hd.1, hd.2, wr _ (by have := hp2.1; omega) (by have := hp2.1; omega)]
        rfl
      · rw [if_neg h3] at h
        cases h
        refine .now fun m => ?_
        rw [show (run_tutorref07_search K0 (m + 1)).1 = s_tutorref07_search_8 (run_tutorref07_search K0 m).1 (run_tutorref07_search K0 m).2 K0 from rfl]
        unfold s_tutorref07_search_8
        rw [hrow, br_neg (by omega)]

theorem ok_tutorref07_search {R : Type} (a : Int) (a_1 : Int) (a_2 : Int) (a_3 : Int) (a_4 : List Int) (a_5 : List Int) (b : Int) (b_1 : Int) (b_2 : Int) (b_3 : Int) (b_4 : List Int) (b_5 : List Int) (s : Int) (t : Int) (K0 : Bool → (List Int) → Option R) {r : R} (h : l_tutorref07_search a a_1 a_2 a_3 a_4 a_5 b b_1 b_2 b_3 b_4 b_5 s t K0 = some r) : ∃ fuel, e_tutorref07_search (run_tutorref07_search K0 fuel).1 (run_tutorref07_search K0 fuel).2 K0 a a_1 a_2 a_3 a_4 a_5 b b_1 b_2 b_3 b_4 b_5 s t = some r := by
  unfold l_tutorref07_search at h
  rcases bi_some h with ⟨hs, h'⟩ | ⟨_, h'⟩
  · obtain ⟨h1, h2, rfl, rfl, h3, h4⟩ := of_decide_eq_true hs
    have A := checkR_fine.1 h1
    have B := checkR_fine.1 h2
    rw [← h']
    have hin : (⟨a, a_1, a_3, b_3, a_4, a_5, b_4, b_5⟩ : Duo).inn (s, t) := ⟨h3, h4⟩
    have e0 := now_st (R := R) (D := ⟨a, a_1, a_3, b_3, a_4, a_5, b_4, b_5⟩) (O := a_2) (O' := b_2) A B hin
    dsimp only at e0
    unfold e_tutorref07_search
    have F : (⟨a, a_1, a_3, b_3, a_4, a_5, b_4, b_5⟩ : Duo).Fine := ⟨⟨_, A⟩, ⟨_, B⟩⟩
    cases hst : Duo.st ⟨a, a_1, a_3, b_3, a_4, a_5, b_4, b_5⟩ (s, t) with
    | true =>
      refine ⟨0, ?_⟩
      rw [e0]
      try dsimp only
      rw [hst, br_tt]
      unfold searchS
      rw [if_pos hst]
      try rfl
    | false =>
      have hNM := mul_most A.fN B.fN
      have i1 := pair_in hin
      have i2 : 0 ≤ s * b_3 := Int.mul_nonneg h3.1 (by omega)
      dsimp only at i1
      have M0 : Marks ⟨a, a_1, a_3, b_3, a_4, a_5, b_4, b_5⟩ ((List.replicate (a_3 * b_3).toNat false).set (s * b_3 + t).toNat true) [((s, t), [])] := by
        have Z : Marks ⟨a, a_1, a_3, b_3, a_4, a_5, b_4, b_5⟩ (List.replicate (a_3 * b_3).toNat false) [] := by
          refine ⟨by simp, fun q _ => ?_⟩
          rw [List.getD_eq_getElem?_getD, List.getElem?_replicate]
          show (if _ then _ else _ : Option Bool).getD false = false
          split <;> rfl
        exact Z.push hin []
      obtain ⟨n, hn⟩ := (rsearch_run (D := ⟨a, a_1, a_3, b_3, a_4, a_5, b_4, b_5⟩) (O := a_2) (O' := b_2) A B (s, t) K0 _ 0 0 _ _ _ (searchS_run F hin hst) (Inv.start hin hst) M0 (by simp) (by omega)).get
      refine ⟨n + 1, ?_⟩
      rw [e0]
      try dsimp only
      rw [hst, br_ff, wr (a_3 * b_3) (by omega) (by omega), wr (s * b_3) (by omega) (by omega), wr (s * b_3 + t) (by omega) (by omega), br_pos (by omega), List.length_replicate, br_pos (by omega)]
      rw [show (run_tutorref07_search K0 (n + 1)).1 = s_tutorref07_search_8 (run_tutorref07_search K0 n).1 (run_tutorref07_search K0 n).2 K0 from rfl]
      unfold s_tutorref07_search_8
      have hd := pair_div h3.1 h4
      rw [br_pos (by simp), br_pos (by simp), br_neg (by omega), br_pos (by simp), br_neg (by omega)]
      rw [show [s * b_3 + t].getD (0 : Int).toNat 0 = s * b_3 + t from rfl, hd.1, hd.2, wr s (by have := A.fN; omega) (by have := A.fN; omega)]
      exact hn
  · cases h'

theorem rsearch_eq {R : Type} {D : Duo} {O O' : Int} (A : Fine D.k D.K O D.N D.nx D.ou) (B : Fine D.k D.K O' D.M D.nx' D.ou') {s : Int × Int} (hs : D.inn s) (K0 : Bool → List Int → Option R) :
    l_tutorref07_search D.k D.K O D.N D.nx D.ou D.k D.K O' D.M D.nx' D.ou' s.1 s.2 K0 = K0 (searchS D s).1 (searchS D s).2 := by
  unfold l_tutorref07_search
  rw [br_pos ⟨checkR_fine.2 A, checkR_fine.2 B, rfl, rfl, hs⟩]

/-- tutor/tutorref07.Separate -/
def l_tutorref07_Separate {R : Type} (a : Int) (a_1 : Int) (a_2 : Int) (a_3 : Int) (a_4 : List Int) (a_5 : List Int) (b : Int) (b_1 : Int) (b_2 : Int) (b_3 : Int) (b_4 : List Int) (b_5 : List Int) (K0 : Bool → Int → (List Int) → Option R) : Option R :=
  l_tutorref03_Check a a_1 a_2 a_3 a_4 a_5
   (fun r1 r2 =>
    bi (r2 != 0)
     (K0 false r2 ([] : List Int))
     (l_tutorref03_Check b b_1 b_2 b_3 b_4 b_5
      (fun r3 r4 =>
       bi (r4 != 0)
        (K0 false r4 ([] : List Int))
        (bi (a != b)
         (K0 false 30 ([] : List Int))
         (bi (a_1 != b_1)
          (K0 false 1 ([] : List Int))
          (bi (a_2 != b_2)
           (K0 false 33 ([] : List Int))
           (l_tutorref07_search a a_1 a_2 a_3 a_4 a_5 b b_1 b_2 b_3 b_4 b_5 0 0
            (fun r5 r6 =>
             K0 r5 0 r6))))))))

theorem rsep_eq {R : Type} {k K O N : Int} {nx ou : List Int} {k' K' O' N' : Int} {nx' ou' : List Int} (h1 : okL nx) (h2 : okL ou) (h3 : okL nx') (h4 : okL ou') (K0 : Bool → Int → List Int → Option R) :
    l_tutorref07_Separate k K O N nx ou k' K' O' N' nx' ou' K0 = K0 (sepS k K O N nx ou k' K' O' N' nx' ou').1 (sepS k K O N nx ou k' K' O' N' nx' ou').2.1 (sepS k K O N nx ou k' K' O' N' nx' ou').2.2 := by
  unfold l_tutorref07_Separate l_tutorref03_Check
  rw [br_pos ⟨h1.1, h2.1⟩]
  try dsimp only
  by_cases c1 : (checkR k K O N nx ou).2 = 0
  · rw [br_ne' c1, br_pos ⟨h3.1, h4.1⟩]
    try dsimp only
    by_cases c2 : (checkR k' K' O' N' nx' ou').2 = 0
    · rw [br_ne' c2]
      by_cases c3 : k = k'
      · rw [br_ne' c3]
        by_cases c4 : K = K'
        · rw [br_ne' c4]
          by_cases c5 : O = O'
          · rw [br_ne' c5]
            have A := checkR_fine.1 c1
            have B := checkR_fine.1 c2
            have hc := (fitS_zero h1 h2 h3 h4).2 ⟨A, B, c3, c4, c5⟩
            unfold sepS
            rw [if_neg (by simpa using hc)]
            subst c3 c4 c5
            have := A.fN
            have := B.fN
            exact rsearch_eq (D := ⟨k, K, N, N', nx, ou, nx', ou'⟩) (s := (0, 0)) A B ⟨by dsimp only; omega, by dsimp only; omega⟩ _
          · rw [br_ne c5]
            unfold sepS fitS
            rw [checkS_eq h1 h2, checkS_eq h3 h4]
            subst c3 c4
            simp [c1, c2, c5]
        · rw [br_ne c4]
          unfold sepS fitS
          rw [checkS_eq h1 h2, checkS_eq h3 h4]
          subst c3
          simp [c1, c2, c4]
      · rw [br_ne c3]
        unfold sepS fitS
        rw [checkS_eq h1 h2, checkS_eq h3 h4]
        simp [c1, c2, c3]
    · rw [br_ne c2]
      unfold sepS fitS
      rw [checkS_eq h1 h2, checkS_eq h3 h4]
      simp [c1, c2]
  · rw [br_ne c1]
    unfold sepS fitS
    rw [checkS_eq h1 h2]
    simp [c1]

/-- tutor/tutorref01.Check -/
def s_tutorref01_Check_6 {R : Type} (g22_6 : (List Int) → Int → Int → Option R) (K0 : Int → Int → Option R) (w : List Int) (k : Int) (i : Int) : Option R :=
  bi (decide (i < (w.length : Int)))
   (bi (decide (0 ≤ i ∧ i < ((w.length : Nat) : Int)))
    (bi (decide ((w.getD i.toNat 0) < 0))
     (K0 i 10)
     (bi (decide (0 ≤ i ∧ i < ((w.length : Nat) : Int)))
      (bi (decide ((w.getD i.toNat 0) ≥ k))
       (K0 i 10)
       (g22_6 w k (IntKind.i64.wrap (i + 1))))
      none))
    none)
   (K0 0 0)

/-- tutor/tutorref01.Check -/
def e_tutorref01_Check {R : Type} (g22_6 : (List Int) → Int → Int → Option R) (K0 : Int → Int → Option R) (w : List Int) (k : Int) : Option R :=
  bi (decide (k < 1))
   (K0 0 1)
   (bi (decide (k > 64))
    (K0 0 1)
    (bi (decide ((w.length : Int) > 4096))
     (K0 0 2)
     (g22_6 w k 0)))

def run_tutorref01_Check {R : Type} (K0 : Int → Int → Option R) : Nat → (List Int) → Int → Int → Option R
  | 0 => fun _ _ _ => none
  | n + 1 => s_tutorref01_Check_6 (run_tutorref01_Check K0 n) K0

def l_tutorref01_Check {R : Type} (w : List Int) (k : Int) (K0 : Int → Int → Option R) : Option R := K0 (wordS k w).1 (wordS k w).2

theorem ok_tutorref01_Check {R : Type} (w : List Int) (k : Int) (K0 : Int → Int → Option R) {r : R} (h : l_tutorref01_Check w k K0 = some r) : ∃ fuel, e_tutorref01_Check (run_tutorref01_Check K0 fuel) K0 w k = some r := by
  refine ⟨w.length + 1, ?_⟩
  rw [← h]
  unfold l_tutorref01_Check e_tutorref01_Check wordS
  by_cases h1 : k < 1
  · rw [br_pos h1, if_pos (by omega)]
  rw [br_neg h1]
  by_cases h2 : k > 64
  · rw [br_pos h2, if_pos (by omega)]
  rw [br_neg h2, if_neg (by omega)]
  by_cases h3 : w.length > 4096
  · rw [br_pos (by omega), if_pos h3]
  rw [br_neg (by omega), if_neg h3]
  have key := scan_all (F := fun m i => run_tutorref01_Check K0 m w k (i : Int)) (outside k) (l := w) (A := fun i => K0 i 10) (B := K0 0 0)
    (fun m => by
      show s_tutorref01_Check_6 _ _ _ _ _ = _
      unfold s_tutorref01_Check_6
      rw [br_neg (by omega)])
    (fun m i hi => by
      show s_tutorref01_Check_6 _ _ _ _ _ = _
      unfold s_tutorref01_Check_6
      rw [br_pos (by omega), br_pos (by omega), br_pos (p := 0 ≤ (i : Int) ∧ (i : Int) < ((w.length : Nat) : Int)) (by omega), Int.toNat_natCast, getD_of 0 hi, wr _ (by omega) (by omega)]
      unfold outside
      cases decide (w[i] < 0) <;> cases decide (w[i] ≥ k) <;> rfl)
  refine key.trans ?_
  cases findP (outside k) w <;> rfl

/-- tutor/tutorref03.Go -/
def s_tutorref03_Go_3 {R : Type} (g40_3 : Int → (List Int) → Int → Int → Int → Int → Int → (List Int) → (List Int) → (List Int) → Option R) (K0 : Int → (List Int) → Option R) (s : Int) (w : List Int) (i : Int) (o0 : Int) (o0_1 : Int) (o0_2 : Int) (o0_3 : Int) (o0_4 : List Int) (o0_5 : List Int) (o1 : List Int) : Option R :=
  bi (decide (i < (w.length : Int)))
   (bi (o0 == 2)
    (bi (decide (0 ≤ i ∧ i < ((w.length : Nat) : Int)))
     (bi (decide (0 ≤ (IntKind.i64.wrap ((IntKind.i64.wrap (s * o0_1)) + (w.getD i.toNat 0))) ∧ (IntKind.i64.wrap ((IntKind.i64.wrap (s * o0_1)) + (w.getD i.toNat 0))) < ((o0_5.length : Nat) : Int)))
      (bi (decide ((o1.length + [o0_5.getD ((IntKind.i64.wrap ((IntKind.i64.wrap (s * o0_1)) + (w.getD i.toNat 0))).toNat) 0].length) * 8 ≤ lim))
       (bi (decide (0 ≤ i ∧ i < ((w.length : Nat) : Int)))
        (bi (decide (0 ≤ (IntKind.i64.wrap ((IntKind.i64.wrap (s * o0_1)) + (w.getD i.toNat 0))) ∧ (IntKind.i64.wrap ((IntKind.i64.wrap (s * o0_1)) + (w.getD i.toNat 0))) < ((o0_4.length : Nat) : Int)))
         (g40_3 (o0_4.getD ((IntKind.i64.wrap ((IntKind.i64.wrap (s * o0_1)) + (w.getD i.toNat 0))).toNat) 0) w (IntKind.i64.wrap (i + 1)) o0 o0_1 o0_2 o0_3 o0_4 o0_5 (o1 ++ [o0_5.getD ((IntKind.i64.wrap ((IntKind.i64.wrap (s * o0_1)) + (w.getD i.toNat 0))).toNat) 0]))
         none)
        none)
       none)
      none)
     none)
    (bi (decide (0 ≤ i ∧ i < ((w.length : Nat) : Int)))
     (bi (decide (0 ≤ (IntKind.i64.wrap ((IntKind.i64.wrap (s * o0_1)) + (w.getD i.toNat 0))) ∧ (IntKind.i64.wrap ((IntKind.i64.wrap (s * o0_1)) + (w.getD i.toNat 0))) < ((o0_4.length : Nat) : Int)))
      (g40_3 (o0_4.getD ((IntKind.i64.wrap ((IntKind.i64.wrap (s * o0_1)) + (w.getD i.toNat 0))).toNat) 0) w (IntKind.i64.wrap (i + 1)) o0 o0_1 o0_2 o0_3 o0_4 o0_5 o1)
      none)
     none))
   (bi (o0 == 1)
    (bi (decide (0 ≤ s ∧ s < ((o0_5.length : Nat) : Int)))
     (K0 s [o0_5.getD s.toNat 0])
     none)
    (K0 s o1))

/-- tutor/tutorref03.Go -/
def e_tutorref03_Go {R : Type} (g40_3 : Int → (List Int) → Int → Int → Int → Int → Int → (List Int) → (List Int) → (List Int) → Option R) (K0 : Int → (List Int) → Option R) (m : Int) (m_1 : Int) (m_2 : Int) (m_3 : Int) (m_4 : List Int) (m_5 : List Int) (s : Int) (w : List Int) : Option R :=
  g40_3 s w 0 m m_1 m_2 m_3 m_4 m_5 ([] : List Int)

def run_tutorref03_Go {R : Type} (K0 : Int → (List Int) → Option R) : Nat → Int → (List Int) → Int → Int → Int → Int → Int → (List Int) → (List Int) → (List Int) → Option R
  | 0 => fun _ _ _ _ _ _ _ _ _ _ => none
  | n + 1 => s_tutorref03_Go_3 (run_tutorref03_Go K0 n) K0

def l_tutorref03_Go {R : Type} (k K O N : Int) (nx ou : List Int) (s : Int) (w : List Int) (K0 : Int → List Int → Option R) : Option R :=
  bi (decide ((checkR k K O N nx ou).2 = 0 ∧ (wordS K w).2 = 0 ∧ 0 ≤ s ∧ s < N)) (K0 (endS k K nx ou s w).1 (endS k K nx ou s w).2) none

theorem ok_tutorref03_Go {R : Type} (k K O N : Int) (nx ou : List Int) (s : Int) (w : List Int) (K0 : Int → List Int → Option R) {r : R} (h : l_tutorref03_Go k K O N nx ou s w K0 = some r) :
    ∃ fuel, e_tutorref03_Go (run_tutorref03_Go K0 fuel) K0 k K O N nx ou s w = some r := by
  unfold l_tutorref03_Go at h
  rcases bi_some h with ⟨hs, h⟩ | ⟨_, h⟩
  · obtain ⟨hc, hw, hs1, hs2⟩ := of_decide_eq_true hs
    have F := checkR_fine.1 hc
    refine ⟨w.length + 1, ?_⟩
    rw [← h]
    unfold e_tutorref03_Go
    obtain ⟨_, hwl, hwx⟩ := wordS_zero.1 hw
    have hK := F.fK
    have hN := F.fN
    have hNK := mulK ⟨hN, hK⟩
    have hnx := F.fnx
    refine (fold_all (F := fun m i (t : Int × List Int) => run_tutorref03_Go K0 m t.1 w (i : Int) k K O N nx ou t.2) (f := goS k K nx ou) (l := w)
      (B := fun t => K0 t.1 (if k = 1 then [ou.getD t.1.toNat 0] else t.2)) (fun i t => (0 ≤ t.1 ∧ t.1 < N) ∧ t.2.length ≤ i) ?_ ?_ (s, []) ⟨by omega, by simp⟩).trans ?_
    · intro m t ht
      show s_tutorref03_Go_3 _ _ _ _ _ _ _ _ _ _ _ _ = _
      unfold s_tutorref03_Go_3
      rw [br_neg (by omega)]
      by_cases hk : k = 1
      · have := F.fou1 hk
        rw [br_eq hk, br_pos (by omega), if_pos hk]
      · rw [br_eq' hk, if_neg hk]
    · intro m i t hi ht
      have hx := hwx _ (List.getElem_mem hi)
      have hin := idx_in ht.1 hx
      have hg : (if k = 2 then t.2 ++ [ou.getD (t.1 * K + w[i]).toNat 0] else t.2).length ≤ i + 1 := by
        split
        · simp; omega
        · omega
      refine ⟨⟨goS_in F ht.1 hx, hg⟩, ?_⟩
      show s_tutorref03_Go_3 (run_tutorref03_Go K0 m) _ _ _ _ _ _ _ _ _ _ _ = run_tutorref03_Go K0 m (nx.getD (t.1 * K + w[i]).toNat 0) w ((i + 1 : Nat) : Int) k K O N nx ou (if k = 2 then t.2 ++ [ou.getD (t.1 * K + w[i]).toNat 0] else t.2)
      unfold s_tutorref03_Go_3
      rw [br_pos (by omega), Int.toNat_natCast, getD_of 0 hi, wr (t.1 * K) (by omega) (by omega), wr (t.1 * K + w[i]) (by omega) (by omega), wr ((i : Int) + 1) (by omega) (by omega)]
      by_cases hk : k = 2
      · have := F.fou2 hk
        rw [br_eq hk, br_pos (by omega), br_pos (by omega), br_pos (by simp [lim]; omega), br_pos (by omega), br_pos (by omega), if_pos hk]
        rfl
      · rw [br_eq' hk, br_pos (by omega), br_pos (by omega), if_neg hk]
        rfl
    · unfold endS
      rfl
  · cases h

/-- tutor/tutorref03.From -/
def l_tutorref03_From {R : Type} (m : Int) (m_1 : Int) (m_2 : Int) (m_3 : Int) (m_4 : List Int) (m_5 : List Int) (s : Int) (w : List Int) (K0 : Int → Int → (List Int) → Option R) : Option R :=
  l_tutorref03_Check m m_1 m_2 m_3 m_4 m_5
   (fun r1 r2 =>
    bi (r2 != 0)
     (K0 0 r2 ([] : List Int))
     (bi (decide (s < 0))
      (K0 0 32 ([] : List Int))
      (bi (decide (s ≥ m_3))
       (K0 0 32 ([] : List Int))
       (l_tutorref01_Check w m_1
        (fun r3 r4 =>
         bi (r4 != 0)
          (K0 0 r4 ([] : List Int))
          (l_tutorref03_Go m m_1 m_2 m_3 m_4 m_5 s w
           (fun r5 r6 =>
            K0 r5 0 r6)))))))

theorem fromR_eq {R : Type} {k K O N : Int} {nx ou : List Int} {s : Int} {w : List Int} (h1 : short nx) (h2 : short ou) (K0 : Int → Int → List Int → Option R) :
    l_tutorref03_From k K O N nx ou s w K0 = K0 (fromS k K O N nx ou s w).1 (fromS k K O N nx ou s w).2.1 (fromS k K O N nx ou s w).2.2 := by
  unfold l_tutorref03_From fromS l_tutorref03_Check
  rw [br_pos ⟨h1, h2⟩]
  try dsimp only
  by_cases hc : (checkR k K O N nx ou).2 = 0
  · rw [br_ne' hc, if_neg (by simpa using hc)]
    by_cases hs1 : s < 0
    · rw [br_pos hs1, if_pos (.inl hs1)]
    rw [br_neg hs1]
    by_cases hs2 : s ≥ N
    · rw [br_pos hs2, if_pos (.inr hs2)]
    rw [br_neg hs2, if_neg (by omega)]
    unfold l_tutorref01_Check
    try dsimp only
    by_cases hw : (wordS K w).2 = 0
    · rw [br_ne' hw, if_neg (by simpa using hw)]
      unfold l_tutorref03_Go
      rw [br_pos ⟨hc, hw, by omega, by omega⟩]
    · rw [br_ne hw, if_pos (by simpa using hw)]
  · rw [br_ne hc, if_pos (by simpa using hc)]

/-- tutor/tutorref03.Run -/
def l_tutorref03_Run {R : Type} (m : Int) (m_1 : Int) (m_2 : Int) (m_3 : Int) (m_4 : List Int) (m_5 : List Int) (w : List Int) (K0 : Int → (List Int) → Option R) : Option R :=
  l_tutorref03_From m m_1 m_2 m_3 m_4 m_5 0 w
   (fun r1 r2 r3 =>
    K0 r2 r3)

/-- tutor/tutorlaw10.TeachTrue -/
def l_tutorlaw10_TeachTrue {R : Type} (m : Int) (m_1 : Int) (m_2 : Int) (m_3 : Int) (m_4 : List Int) (m_5 : List Int) (w : List Int) (h : Int) (h_1 : Int) (h_2 : Int) (h_3 : Int) (h_4 : List Int) (h_5 : List Int) (K0 : Bool → Option R) : Option R :=
  l_tutorref03_Big m m_1 m_2 m_3 m_4 m_5 60
   (fun r1 =>
    bi r1
     (l_tutorlaw10_live
      (fun r2 =>
       K0 r2))
     (l_tutorref03_Big h h_1 h_2 h_3 h_4 h_5 60
      (fun r3 =>
       bi r3
        (l_tutorlaw10_live
         (fun r4 =>
          K0 r4))
        (bi (decide ((w.length : Int) > 2000))
         (l_tutorlaw10_live
          (fun r5 =>
           K0 r5))
         (l_teach_Tell m m_1 m_2 m_3 m_4 m_5 1 w m m_1 m_2 0 ([] : List Int) ([] : List Int)
          (fun r6 r7 r8 r9 =>
           l_tutorlaw10_num r7
            (fun r10 =>
             bi (r10 == 0)
              (l_teach_Check 1 w m m_1 m_2 0 ([] : List Int) ([] : List Int) r6 r8 r9
               (fun r11 =>
                l_tutorlaw10_num r11
                 (fun r12 =>
                  bi (r12 != 0)
                   (K0 false)
                   (l_teach_Tell m m_1 m_2 m_3 m_4 m_5 2 ([] : List Int) h h_1 h_2 h_3 h_4 h_5
                    (fun r13 r14 r15 r16 =>
                     l_tutorlaw10_num r14
                      (fun r17 =>
                       bi (r17 != 0)
                        (l_tutorlaw10_live
                         (fun r18 =>
                          K0 r18))
                        (l_tutorref07_Separate m m_1 m_2 m_3 m_4 m_5 h h_1 h_2 h_3 h_4 h_5
                         (fun r19 r20 r21 =>
                          l_teach_Check 2 ([] : List Int) h h_1 h_2 h_3 h_4 h_5 r13 r15 r16
                           (fun r22 =>
                            l_tutorlaw10_num r22
                             (fun r23 =>
                              bi (r23 != 0)
                               (K0 false)
                               (bi (!((r13 == 3) == r19))
                                (K0 false)
                                (bi (!r19)
                                 (bi (r13 == 2)
                                  (l_tutorlaw10_live
                                   (fun r24 =>
                                    K0 r24))
                                  (K0 false))
                                 (l_tutorref03_Run m m_1 m_2 m_3 m_4 m_5 r16
                                  (fun r25 r26 =>
                                   l_tutorref03_Run h h_1 h_2 h_3 h_4 h_5 r16
                                    (fun r27 r28 =>
                                     l_tutorref01_Same r26 r28
                                      (fun r29 =>
                                       bi (!r29)
                                        (l_tutorlaw10_live
                                         (fun r30 =>
                                          K0 r30))
                                        (K0 false)))))))))))))))))
              (l_teach_Tell m m_1 m_2 m_3 m_4 m_5 2 ([] : List Int) h h_1 h_2 h_3 h_4 h_5
               (fun r31 r32 r33 r34 =>
                l_tutorlaw10_num r32
                 (fun r35 =>
                  bi (r35 != 0)
                   (l_tutorlaw10_live
                    (fun r36 =>
                     K0 r36))
                   (l_tutorref07_Separate m m_1 m_2 m_3 m_4 m_5 h h_1 h_2 h_3 h_4 h_5
                    (fun r37 r38 r39 =>
                     l_teach_Check 2 ([] : List Int) h h_1 h_2 h_3 h_4 h_5 r31 r33 r34
                      (fun r40 =>
                       l_tutorlaw10_num r40
                        (fun r41 =>
                         bi (r41 != 0)
                          (K0 false)
                          (bi (!((r31 == 3) == r37))
                           (K0 false)
                           (bi (!r37)
                            (bi (r31 == 2)
                             (l_tutorlaw10_live
                              (fun r42 =>
                               K0 r42))
                             (K0 false))
                            (l_tutorref03_Run m m_1 m_2 m_3 m_4 m_5 r34
                             (fun r43 r44 =>
                              l_tutorref03_Run h h_1 h_2 h_3 h_4 h_5 r34
                               (fun r45 r46 =>
                                l_tutorref01_Same r44 r46
                                 (fun r47 =>
                                  bi (!r47)
                                   (l_tutorlaw10_live
                                    (fun r48 =>
                                     K0 r48))
                                   (K0 false)))))))))))))))))))))

theorem tell_member {k K O N : Int} {nx ou : List Int} {w : List Int} {k' K' O' N' : Int} {nx' ou' : List Int} (h : (tellS k K O N nx ou 1 w k' K' O' N' nx' ou').2.1 = 0) :
    teachC 1 w k K O (tellS k K O N nx ou 1 w k' K' O' N' nx' ou').1 (tellS k K O N nx ou 1 w k' K' O' N' nx' ou').2.2.1 (tellS k K O N nx ou 1 w k' K' O' N' nx' ou').2.2.2 = 0 := by
  unfold tellS at h ⊢
  by_cases c1 : (checkR k K O N nx ou).2 = 0
  · rw [if_neg (by simpa using c1), if_pos rfl] at h ⊢
    by_cases c2 : (fromS k K O N nx ou 0 w).2.1 = 0
    · rw [if_neg (by simpa using c2)] at h ⊢
      have F := checkR_fine.1 c1
      have hN := F.fN
      have hw : (wordS K w).2 = 0 := by
        unfold fromS at c2
        rw [if_neg (by simpa using c1), if_neg (by omega)] at c2
        by_cases hw : (wordS K w).2 = 0
        · exact hw
        · rw [if_pos hw] at c2
          exact absurd c2 hw
      rw [fromS_fine F (by omega) hw]
      have ho := end_out F (s := 0) (by omega) (w := w) (wordS_zero.1 hw).2.2
      unfold teachC
      rw [if_neg (by omega), if_neg (by omega), if_pos]
      refine ⟨rfl, rfl, ?_⟩
      rcases F.fk with hk | hk
      · exact .inl ⟨hk, ho.1 hk⟩
      · exact .inr ⟨hk, ho.2 hk⟩
    · rw [if_pos (by simpa using c2)] at h
      exact absurd h c2
  · rw [if_pos (by simpa using c1)] at h
    exact absurd h c1

/-- What a teacher answers to a hypothesis. -/
theorem tell_hypo {k K O N : Int} {nx ou : List Int} {k' K' O' N' : Int} {nx' ou' : List Int} (h1 : okL nx) (h2 : okL ou) (h3 : okL nx') (h4 : okL ou') (hb : N ≤ 60) (hb' : N' ≤ 60)
    (h : (tellS k K O N nx ou 2 [] k' K' O' N' nx' ou').2.1 = 0) :
    teachC 2 [] k' K' O' (tellS k K O N nx ou 2 [] k' K' O' N' nx' ou').1 (tellS k K O N nx ou 2 [] k' K' O' N' nx' ou').2.2.1 (tellS k K O N nx ou 2 [] k' K' O' N' nx' ou').2.2.2 = 0 ∧
    (((sepS k K O N nx ou k' K' O' N' nx' ou').1 = true ∧ (tellS k K O N nx ou 2 [] k' K' O' N' nx' ou').1 = 3 ∧ (fromS k K O N nx ou 0 (tellS k K O N nx ou 2 [] k' K' O' N' nx' ou').2.2.2).2.2 ≠ (fromS k' K' O' N' nx' ou' 0 (tellS k K O N nx ou 2 [] k' K' O' N' nx' ou').2.2.2).2.2) ∨
     ((sepS k K O N nx ou k' K' O' N' nx' ou').1 = false ∧ (tellS k K O N nx ou 2 [] k' K' O' N' nx' ou').1 = 2)) := by
  unfold tellS at h ⊢
  by_cases c1 : (checkR k K O N nx ou).2 = 0
  · rw [if_neg (by simpa using c1), if_neg (by omega), if_pos rfl] at h ⊢
    by_cases c2 : (sepS k K O N nx ou k' K' O' N' nx' ou').2.1 = 0
    · rw [if_neg (by simpa using c2)] at h ⊢
      have hf : fitS k K O N nx ou k' K' O' N' nx' ou' = 0 := by
        unfold sepS at c2
        by_cases hf : fitS k K O N nx ou k' K' O' N' nx' ou' = 0
        · exact hf
        · rw [if_pos hf] at c2
          exact absurd c2 hf
      obtain ⟨A, B, rfl, rfl, rfl⟩ := (fitS_zero h1 h2 h3 h4).1 hf
      have e : sepS k K O N nx ou k K O N' nx' ou' = ((searchS ⟨k, K, N, N', nx, ou, nx', ou'⟩ (0, 0)).1, 0, (searchS ⟨k, K, N, N', nx, ou, nx', ou'⟩ (0, 0)).2) := by
        unfold sepS
        rw [if_neg (by simpa using hf)]
      have hN := A.fN
      have hN' := B.fN
      have FD : (⟨k, K, N, N', nx, ou, nx', ou'⟩ : Duo).Fine := ⟨⟨_, A⟩, ⟨_, B⟩⟩
      have hin : (⟨k, K, N, N', nx, ou, nx', ou'⟩ : Duo).inn (0, 0) := ⟨by dsimp only; omega, by dsimp only; omega⟩
      have hF := search_found FD hin
      have hlen := searchS_len FD hin
      rw [e]
      dsimp only
      cases hr : (searchS ⟨k, K, N, N', nx, ou, nx', ou'⟩ (0, 0)).1 with
      | true =>
        rw [if_pos rfl]
        obtain ⟨hv, ht, _⟩ := hF.yes hr
        dsimp only at hlen
        generalize (searchS ⟨k, K, N, N', nx, ou, nx', ou'⟩ (0, 0)).2 = v at *
        have hNN : N * N' ≤ 60 * 60 := by
          have e1 : N * N' ≤ 60 * N' := Int.mul_le_mul_of_nonneg_right hb (by omega)
          omega
        have hw : (wordS K v).2 = 0 := wordS_zero.2 ⟨A.fK, by omega, hv⟩
        constructor
        · unfold teachC
          rw [if_neg (by omega), if_pos rfl, if_pos]
          exact ⟨rfl, .inr ⟨rfl, hw⟩⟩
        · refine .inl ⟨rfl, rfl, ?_⟩
          try dsimp only
          rw [fromS_fine A (by omega) hw, fromS_fine B (by omega) hw]
          intro he
          have := (end_tel (D := ⟨k, K, N, N', nx, ou, nx', ou'⟩) A.fk (0, 0) v).1 he
          rw [this] at ht
          cases ht
      | false =>
        rw [if_neg (by decide)]
        constructor
        · unfold teachC
          rw [if_neg (by omega), if_pos rfl, if_pos]
          exact ⟨rfl, .inl ⟨rfl, rfl⟩⟩
        · exact .inr ⟨rfl, rfl⟩
    · rw [if_pos (by simpa using c2)] at h
      exact absurd h c2
  · rw [if_pos (by simpa using c1)] at h
    exact absurd h c1

theorem law_tutorlaw10_TeachTrue {R : Type} (k K O N : Int) (nx ou : List Int) (w : List Int) (k' K' O' N' : Int) (nx' ou' : List Int) (K0 : Bool → Option R) (hk : inI k) (hK : inI K) (hO : inI O) (hN : inI N) (hn : okW nx) (ho : okW ou)
    (hw : okW w) (hk' : inI k') (hK' : inI K') (hO' : inI O') (hN' : inI N') (hn' : okW nx') (ho' : okW ou') :
    l_tutorlaw10_TeachTrue k K O N nx ou w k' K' O' N' nx' ou' K0 = K0 true := by
  unfold l_tutorlaw10_TeachTrue
  rcases big_cases k K O N nx ou 60 _ with h | ⟨b1, h1, h2, h⟩
  · rw [h, br_tt, live10]
  rw [h, br_ff]
  rcases big_cases k' K' O' N' nx' ou' 60 _ with h | ⟨b2, h3, h4, h⟩
  · rw [h, br_tt, live10]
  rw [h, br_ff]
  by_cases hl : (w.length : Int) > 2000
  · rw [br_pos hl, live10]
  have o1 : okL nx := hn.okL (by unfold short; omega)
  have o2 : okL ou := ho.okL (by unfold short; omega)
  have o3 : okL nx' := hn'.okL (by unfold short; omega)
  have o4 : okL ou' := ho'.okL (by unfold short; omega)
  have on : okL [] := ⟨by decide, fun x hx => by cases hx⟩
  have hlen1 := tellS_len (k := k) (K := K) (O := O) (N := N) (nx := nx) (ou := ou) (q := 1) (w := w) (k' := k) (K' := K) (O' := O) (N' := 0) (nx' := []) (ou' := []) o1 o2 on on
  have hlen2 := tellS_len (k := k) (K := K) (O := O) (N := N) (nx := nx) (ou := ou) (q := 2) (w := []) (k' := k') (K' := K') (O' := O') (N' := N') o1 o2 o3 o4
  have f1 := tell_member (k := k) (K := K) (O := O) (N := N) (nx := nx) (ou := ou) (w := w) (k' := k) (K' := K) (O' := O) (N' := 0) (nx' := []) (ou' := [])
  have f2 := tell_hypo (k := k) (K := K) (O := O) (N := N) (nx := nx) (ou := ou) (k' := k') (K' := K') (O' := O') (N' := N') o1 o2 o3 o4 b1 b2
  rw [br_neg hl, tell_eq o1 o2 on on]
  try dsimp only
  generalize tellS k K O N nx ou 1 w k K O 0 [] [] = T1 at *
  unfold l_tutorlaw10_num
  try dsimp only
  by_cases c1 : T1.2.1 = 0
  · rw [br_eq c1, tcheck_eq (by omega) (by omega)]
    try dsimp only
    rw [f1 c1, br_ne' rfl]
    rw [tell_eq o1 o2 o3 o4]
    try dsimp only
    generalize tellS k K O N nx ou 2 [] k' K' O' N' nx' ou' = T2 at *
    by_cases c2 : T2.2.1 = 0
    · rw [br_ne' c2, rsep_eq o1 o2 o3 o4]
      try dsimp only
      rw [tcheck_eq (by omega) (by omega)]
      try dsimp only
      obtain ⟨g1, g2⟩ := f2 c2
      rw [g1, br_ne' rfl]
      rcases g2 with ⟨g2, g3, g4⟩ | ⟨g2, g3⟩
      · rw [g2, g3, show (!((3 : Int) == 3) == true) = false from rfl, br_ff, show (!true) = false from rfl, br_ff]
        unfold l_tutorref03_Run
        rw [fromR_eq o1.1 o2.1]
        try dsimp only
        rw [fromR_eq o3.1 o4.1]
        try dsimp only
        rw [same_eq (by unfold short; have := @from_short k K O N nx ou 0 T2.2.2.2; omega), decide_eq_false g4]
        try dsimp only
        rw [show (!false) = true from rfl, br_tt, live10]
      · rw [g2, g3, show (!((2 : Int) == 3) == false) = false from rfl, br_ff, show (!false) = true from rfl, br_tt, br_eq rfl, live10]
    · rw [br_ne c2, live10]
  · rw [br_eq' c1]
    rw [tell_eq o1 o2 o3 o4]
    try dsimp only
    generalize tellS k K O N nx ou 2 [] k' K' O' N' nx' ou' = T2 at *
    by_cases c2 : T2.2.1 = 0
    · rw [br_ne' c2, rsep_eq o1 o2 o3 o4]
      try dsimp only
      rw [tcheck_eq (by omega) (by omega)]
      try dsimp only
      obtain ⟨g1, g2⟩ := f2 c2
      rw [g1, br_ne' rfl]
      rcases g2 with ⟨g2, g3, g4⟩ | ⟨g2, g3⟩
      · rw [g2, g3, show (!((3 : Int) == 3) == true) = false from rfl, br_ff, show (!true) = false from rfl, br_ff]
        unfold l_tutorref03_Run
        rw [fromR_eq o1.1 o2.1]
        try dsimp only
        rw [fromR_eq o3.1 o4.1]
        try dsimp only
        rw [same_eq (by unfold short; have := @from_short k K O N nx ou 0 T2.2.2.2; omega), decide_eq_false g4]
        try dsimp only
        rw [show (!false) = true from rfl, br_tt, live10]
      · rw [g2, g3, show (!((2 : Int) == 3) == false) = false from rfl, br_ff, show (!false) = true from rfl, br_tt, br_eq rfl, live10]
    · rw [br_ne c2, live10]

end
end Go.Ev
