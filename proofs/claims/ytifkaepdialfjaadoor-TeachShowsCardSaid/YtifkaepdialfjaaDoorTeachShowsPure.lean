/- Functions of the program, as trees of tests over numbers and lists; no program in sight. -/
import Derived.Test.YtifkaepdialfjaaDoorEvMach
import Derived.Test.YtifkaepdialfjaaDoorEvWord
import Derived.Test.YtifkaepdialfjaaDoorEvItoa
namespace Go.Ev
noncomputable section
set_option linter.unusedVariables false
set_option linter.unusedSimpArgs false
set_option maxRecDepth 100000
set_option maxHeartbeats 4000000

/-- tutor/tutorref10.Huge -/
def s_tutorref10_Huge_5 {R : Type} (g5_5 : (List (Int × (List Int × List Int))) → Int → Int → Int → Option R) (K0 : Bool → Option R) (l : List (Int × (List Int × List Int))) (most : Int) (n : Int) (i : Int) : Option R :=
  bi (decide (i < (l.length : Int)))
   (bi (decide (0 ≤ i ∧ i < ((l.length : Nat) : Int)))
    (bi (decide (((((l.getD i.toNat (0, ([], []))).2).1).length : Int) > (IntKind.i64.wrap (most - n))))
     (K0 true)
     (bi (decide (0 ≤ i ∧ i < ((l.length : Nat) : Int)))
      (bi (decide (0 ≤ i ∧ i < ((l.length : Nat) : Int)))
       (bi (decide (((((l.getD i.toNat (0, ([], []))).2).2).length : Int) > (IntKind.i64.wrap (most - (IntKind.i64.wrap (n + ((((l.getD i.toNat (0, ([], []))).2).1).length : Int)))))))
        (K0 true)
        (bi (decide (0 ≤ i ∧ i < ((l.length : Nat) : Int)))
         (g5_5 l most (IntKind.i64.wrap ((IntKind.i64.wrap (n + ((((l.getD i.toNat (0, ([], []))).2).1).length : Int))) + ((((l.getD i.toNat (0, ([], []))).2).2).length : Int))) (IntKind.i64.wrap (i + 1)))
         none))
       none)
      none))
    none)
   (K0 false)

/-- tutor/tutorref10.Huge -/
def e_tutorref10_Huge {R : Type} (g5_5 : (List (Int × (List Int × List Int))) → Int → Int → Int → Option R) (K0 : Bool → Option R) (l : List (Int × (List Int × List Int))) (most : Int) : Option R :=
  bi (decide ((l.length : Int) > most))
   (K0 true)
   (g5_5 l most 0 0)

def run_tutorref10_Huge {R : Type} (K0 : Bool → Option R) : Nat → (List (Int × (List Int × List Int))) → Int → Int → Int → Option R
  | 0 => fun _ _ _ _ => none
  | n + 1 => s_tutorref10_Huge_5 (run_tutorref10_Huge K0 n) K0

def hugeR (most : Int) : Int → List (Int × (List Int × List Int)) → Bool
  | _, [] => false
  | n, x :: xs => if (x.2.1.length : Int) > most - n then true else if (x.2.2.length : Int) > most - (n + x.2.1.length) then true else hugeR most (n + x.2.1.length + x.2.2.length) xs

def hugeS (l : List (Int × (List Int × List Int))) (most : Int) : Bool := if (l.length : Int) > most then true else hugeR most 0 l

def l_tutorref10_Huge {R : Type} (l : List (Int × (List Int × List Int))) (most : Int) (K0 : Bool → Option R) : Option R := bi (decide (0 ≤ most ∧ most ≤ 1099511627776)) (K0 (hugeS l most)) none

theorem hugeLoop {R : Type} {l : List (Int × (List Int × List Int))} {most : Int} (hm : 0 ≤ most ∧ most ≤ 1099511627776) (hl : (l.length : Int) ≤ most) (K0 : Bool → Option R) : ∀ (d i : Nat) (n : Int), i + d = l.length → 0 ≤ n ∧ n ≤ most →
    Reach (fun m => run_tutorref10_Huge K0 m l most n (i : Int)) (K0 (hugeR most n (l.drop i))) := by
  intro d
  induction d with
  | zero =>
    intro i n hi hn
    refine .now fun m => ?_
    dsimp only [run_tutorref10_Huge]
    unfold s_tutorref10_Huge_5
    rw [br_neg (by omega), List.drop_of_length_le (by omega)]
    rfl
  | succ d ih =>
    intro i n hi hn
    have h1 : i < l.length := by omega
    rw [List.drop_eq_getElem_cons h1]
    simp only [hugeR]
    by_cases c1 : ((l[i].2.1).length : Int) > most - n
    · refine .now fun m => ?_
      dsimp only [run_tutorref10_Huge]
      unfold s_tutorref10_Huge_5
      rw [br_pos (by omega), br_pos (by omega), Int.toNat_natCast, getD_of (0, ([], [])) h1, wr (most - n) (by omega) (by omega), br_pos c1, if_pos c1]
    · by_cases c2 : ((l[i].2.2).length : Int) > most - (n + (l[i].2.1).length)
      · refine .now fun m => ?_
        dsimp only [run_tutorref10_Huge]
        unfold s_tutorref10_Huge_5
        rw [br_pos (by omega), br_pos (by omega), Int.toNat_natCast, getD_of (0, ([], [])) h1, wr (most - n) (by omega) (by omega), br_neg c1, if_neg c1, br_pos (by omega), br_pos (by omega), wr (n + ((l[i].2.1).length : Int)) (by omega) (by omega), wr (most - (n + ((l[i].2.1).length : Int))) (by omega) (by omega), br_pos c2, if_pos c2]
      · refine .step (fun m => ?_) (by rw [if_neg c1, if_neg c2]; exact ih (i + 1) (n + (l[i].2.1).length + (l[i].2.2).length) (by omega) (by omega))
        dsimp only [run_tutorref10_Huge]
        unfold s_tutorref10_Huge_5
        rw [br_pos (by omega), br_pos (by omega), Int.toNat_natCast, getD_of (0, ([], [])) h1, wr (most - n) (by omega) (by omega), br_neg c1, br_pos (by omega), br_pos (by omega), wr (n + ((l[i].2.1).length : Int)) (by omega) (by omega), wr (most - (n + ((l[i].2.1).length : Int))) (by omega) (by omega), br_neg c2, br_pos (by omega), wr _ (by omega) (by omega), wr _ (by omega) (by omega)]
        rfl

theorem ok_tutorref10_Huge {R : Type} (l : List (Int × (List Int × List Int))) (most : Int) (K0 : Bool → Option R) {r : R} (h : l_tutorref10_Huge l most K0 = some r) : ∃ fuel, e_tutorref10_Huge (run_tutorref10_Huge K0 fuel) K0 l most = some r := by
  unfold l_tutorref10_Huge at h
  rcases bi_some h with ⟨hs, h⟩ | ⟨_, h⟩
  · have hm : 0 ≤ most ∧ most ≤ 1099511627776 := of_decide_eq_true hs
    rw [← h]
    unfold hugeS
    by_cases hl : (l.length : Int) > most
    · exact ⟨0, by unfold e_tutorref10_Huge; rw [br_pos hl, if_pos hl]⟩
    · obtain ⟨n, hn⟩ := (hugeLoop (l := l) hm (by omega) K0 l.length 0 0 (by omega) (by omega)).get
      exact ⟨n, by unfold e_tutorref10_Huge; rw [br_neg hl, if_neg hl]; exact hn⟩
  · cases h

theorem huge_eq {R : Type} {l : List (Int × (List Int × List Int))} {most : Int} (h : 0 ≤ most ∧ most ≤ 1099511627776) (K0 : Bool → Option R) : l_tutorref10_Huge l most K0 = K0 (hugeS l most) := by
  unfold l_tutorref10_Huge
  rw [br_pos h]

/-- tutor/text.Number -/
def s_text_Number_4 {R : Type} (g22_4 : (List Int) → Int → Int → Int → Option R) (K0 : Int → Int → Int → Option R) (b : List Int) (vat : Int) (n : Int) (i : Int) : Option R :=
  bi (decide (i < (b.length : Int)))
   (bi (decide (0 ≤ i ∧ i < ((b.length : Nat) : Int)))
    (bi (decide ((b.getD i.toNat 0) ≥ 48))
     (bi (decide (0 ≤ i ∧ i < ((b.length : Nat) : Int)))
      (bi (decide ((b.getD i.toNat 0) ≤ 57))
       (bi ((IntKind.i64.wrap (i - vat)) == 4)
        (K0 0 i 6)
        (bi ((IntKind.i64.wrap (i - vat)) == 1)
         (bi (decide (0 ≤ vat ∧ vat < ((b.length : Nat) : Int)))
          (bi ((b.getD vat.toNat 0) == 48)
           (K0 0 i 6)
           (bi (decide (0 ≤ i ∧ i < ((b.length : Nat) : Int)))
            (g22_4 b vat (IntKind.i64.wrap ((IntKind.i64.wrap (10 * n)) + (IntKind.i64.wrap (IntKind.u8.wrap ((b.getD i.toNat 0) - 48))))) (IntKind.i64.wrap (i + 1)))
            none))
          none)
         (bi (decide (0 ≤ i ∧ i < ((b.length : Nat) : Int)))
          (g22_4 b vat (IntKind.i64.wrap ((IntKind.i64.wrap (10 * n)) + (IntKind.i64.wrap (IntKind.u8.wrap ((b.getD i.toNat 0) - 48))))) (IntKind.i64.wrap (i + 1)))
          none)))
       (bi (i == vat)
        (K0 0 vat 6)
        (K0 n i 0)))
      none)
     (bi (i == vat)
      (K0 0 vat 6)
      (K0 n i 0)))
    none)
   (bi (i == vat)
    (K0 0 vat 6)
    (K0 n i 0))

/-- tutor/text.Number -/
def e_text_Number {R : Type} (g22_4 : (List Int) → Int → Int → Int → Option R) (K0 : Int → Int → Int → Option R) (b : List Int) (vat : Int) : Option R :=
  bi (decide (vat < 0))
   (K0 0 0 1)
   (bi (decide (vat > (b.length : Int)))
    (K0 0 0 1)
    (g22_4 b vat 0 vat))

def run_text_Number {R : Type} (K0 : Int → Int → Int → Option R) : Nat → (List Int) → Int → Int → Int → Option R
  | 0 => fun _ _ _ _ => none
  | n + 1 => s_text_Number_4 (run_text_Number K0 n) K0

def l_text_Number {R : Type} (b : List Int) (vat : Int) (K0 : Int → Int → Int → Option R) : Option R := e_text_Number (run_text_Number K0 (b.length + 2)) K0 b vat

theorem ok_text_Number {R : Type} (b : List Int) (vat : Int) (K0 : Int → Int → Int → Option R) {r : R} (h : l_text_Number b vat K0 = some r) : ∃ fuel, e_text_Number (run_text_Number K0 fuel) K0 b vat = some r := ⟨_, h⟩

/-- tutor/teach.numbers -/
def s_teach_numbers_1 {R : Type} (g18_1 : (List Int) → Int → (List Int) → Option R) (K0 : Int → Int → (List Int) → Option R) (b : List Int) (vat : Int) (o0 : List Int) : Option R :=
  bi (vat == (b.length : Int))
   (K0 6 vat ([] : List Int))
   (bi (decide (0 ≤ vat ∧ vat < ((b.length : Nat) : Int)))
    (bi ((b.getD vat.toNat 0) == 10)
     (K0 0 (IntKind.i64.wrap (vat + 1)) o0)
     (bi (decide (0 ≤ vat ∧ vat < ((b.length : Nat) : Int)))
      (bi ((b.getD vat.toNat 0) != 32)
       (K0 6 vat ([] : List Int))
       (bi ((o0.length : Int) == 4096)
        (K0 2 vat ([] : List Int))
        (l_text_Number b (IntKind.i64.wrap (vat + 1))
         (fun r1 r2 r3 =>
          bi (r3 != 0)
           (K0 r3 r2 ([] : List Int))
           (bi (decide ((o0.length + [r1].length) * 8 ≤ lim))
            (g18_1 b r2 (o0 ++ [r1]))
            none)))))
      none))
    none)

/-- tutor/teach.numbers -/
def e_teach_numbers {R : Type} (g18_1 : (List Int) → Int → (List Int) → Option R) (K0 : Int → Int → (List Int) → Option R) (b : List Int) (vat : Int) : Option R :=
  g18_1 b vat ([] : List Int)

def run_teach_numbers {R : Type} (K0 : Int → Int → (List Int) → Option R) : Nat → (List Int) → Int → (List Int) → Option R
  | 0 => fun _ _ _ => none
  | n + 1 => s_teach_numbers_1 (run_teach_numbers K0 n) K0

def l_teach_numbers {R : Type} (b : List Int) (vat : Int) (K0 : Int → Int → List Int → Option R) : Option R := e_teach_numbers (run_teach_numbers K0 (b.length + 2)) K0 b vat

theorem ok_teach_numbers {R : Type} (b : List Int) (vat : Int) (K0 : Int → Int → List Int → Option R) {r : R} (h : l_teach_numbers b vat K0 = some r) : ∃ fuel, e_teach_numbers (run_teach_numbers K0 fuel) K0 b vat = some r := ⟨_, h⟩

/-- tutor/teach.Parse -/
def s_teach_Parse_3 {R : Type} (g10_3 : (List Int) → Int → (List (Int × (List Int × List Int))) → Option R) (K0 : Int → Int → (List (Int × (List Int × List Int))) → Option R) (b : List Int) (vat : Int) (o0 : List (Int × (List Int × List Int))) : Option R :=
  bi (decide (vat < (b.length : Int)))
   (bi ((o0.length : Int) == 65536)
    (K0 3 vat ([] : List (Int × (List Int × List Int))))
    (bi (decide (0 ≤ vat ∧ vat < ((b.length : Nat) : Int)))
     (bi ((b.getD vat.toNat 0) == 111)
      (l_teach_numbers b (IntKind.i64.wrap (vat + 1))
       (fun r1 r2 r3 =>
        bi (r1 != 0)
         (K0 r1 r2 ([] : List (Int × (List Int × List Int))))
         (bi (decide ((o0.length + [(1, (r3, ([] : List Int)))].length) * 56 ≤ lim))
          (g10_3 b r2 (o0 ++ [(1, (r3, ([] : List Int)))]))
          none)))
      (bi ((b.getD vat.toNat 0) == 121)
       (bi (decide ((IntKind.i64.wrap (vat + 1)) < (b.length : Int)))
        (bi (decide (0 ≤ (IntKind.i64.wrap (vat + 1)) ∧ (IntKind.i64.wrap (vat + 1)) < ((b.length : Nat) : Int)))
         (bi ((b.getD ((IntKind.i64.wrap (vat + 1)).toNat) 0) != 10)
          (K0 6 (IntKind.i64.wrap (vat + 1)) ([] : List (Int × (List Int × List Int))))
          (l_teach_numbers b (IntKind.i64.wrap (vat + 1))
           (fun r4 r5 r6 =>
            bi (r4 != 0)
             (K0 r4 r5 ([] : List (Int × (List Int × List Int))))
             (bi (decide ((o0.length + [(2, (([] : List Int), r6))].length) * 56 ≤ lim))
              (g10_3 b r5 (o0 ++ [(2, (([] : List Int), r6))]))
              none))))
         none)
        (l_teach_numbers b (IntKind.i64.wrap (vat + 1))
         (fun r7 r8 r9 =>
          bi (r7 != 0)
           (K0 r7 r8 ([] : List (Int × (List Int × List Int))))
           (bi (decide ((o0.length + [(2, (([] : List Int), r9))].length) * 56 ≤ lim))
            (g10_3 b r8 (o0 ++ [(2, (([] : List Int), r9))]))
            none))))
       (bi ((b.getD vat.toNat 0) == 110)
        (l_teach_numbers b (IntKind.i64.wrap (vat + 1))
         (fun r10 r11 r12 =>
          bi (r10 != 0)
           (K0 r10 r11 ([] : List (Int × (List Int × List Int))))
           (bi (decide ((o0.length + [(3, (([] : List Int), r12))].length) * 56 ≤ lim))
            (g10_3 b r11 (o0 ++ [(3, (([] : List Int), r12))]))
            none)))
        (K0 6 vat ([] : List (Int × (List Int × List Int)))))))
     none))
   (K0 0 (b.length : Int) o0)

/-- tutor/teach.Parse -/
def e_teach_Parse {R : Type} (g10_3 : (List Int) → Int → (List (Int × (List Int × List Int))) → Option R) (K0 : Int → Int → (List (Int × (List Int × List Int))) → Option R) (b : List Int) : Option R :=
  bi (decide ((b.length : Int) > 16777216))
   (K0 2 0 ([] : List (Int × (List Int × List Int))))
   (g10_3 b 0 ([] : List (Int × (List Int × List Int))))

def run_teach_Parse {R : Type} (K0 : Int → Int → (List (Int × (List Int × List Int))) → Option R) : Nat → (List Int) → Int → (List (Int × (List Int × List Int))) → Option R
  | 0 => fun _ _ _ => none
  | n + 1 => s_teach_Parse_3 (run_teach_Parse K0 n) K0

def l_teach_Parse {R : Type} (b : List Int) (K0 : Int → Int → (List (Int × (List Int × List Int))) → Option R) : Option R := e_teach_Parse (run_teach_Parse K0 (b.length + 2)) K0 b

theorem ok_teach_Parse {R : Type} (b : List Int) (K0 : Int → Int → (List (Int × (List Int × List Int))) → Option R) {r : R} (h : l_teach_Parse b K0 = some r) : ∃ fuel, e_teach_Parse (run_teach_Parse K0 fuel) K0 b = some r := ⟨_, h⟩

/-- tutor/tutorlaw10.num -/
def l_tutorlaw10_num {R : Type} (e : Int) (K0 : Int → Option R) : Option R :=
  K0 e

/-- tutor/tutorref01.Same -/
def s_tutorref01_Same_4 {R : Type} (g13_4 : (List Int) → (List Int) → Int → Option R) (K0 : Bool → Option R) (a : List Int) (b : List Int) (i : Int) : Option R :=
  bi (decide (i < (a.length : Int)))
   (bi (decide (0 ≤ i ∧ i < ((a.length : Nat) : Int)))
    (bi (decide (0 ≤ i ∧ i < ((b.length : Nat) : Int)))
     (bi ((a.getD i.toNat 0) != (b.getD i.toNat 0))
      (K0 false)
      (g13_4 a b (IntKind.i64.wrap (i + 1))))
     none)
    none)
   (K0 true)

/-- tutor/tutorref01.Same -/
def e_tutorref01_Same {R : Type} (g13_4 : (List Int) → (List Int) → Int → Option R) (K0 : Bool → Option R) (a : List Int) (b : List Int) : Option R :=
  bi ((a.length : Int) != (b.length : Int))
   (K0 false)
   (g13_4 a b 0)

def run_tutorref01_Same {R : Type} (K0 : Bool → Option R) : Nat → (List Int) → (List Int) → Int → Option R
  | 0 => fun _ _ _ => none
  | n + 1 => s_tutorref01_Same_4 (run_tutorref01_Same K0 n) K0

def l_tutorref01_Same {R : Type} (a : List Int) (b : List Int) (K0 : Bool → Option R) : Option R := bi (decide (short a)) (K0 (decide (a = b))) none

theorem findP_zip {a b : List Int} (hl : a.length = b.length) : findP (fun i => a.getD i 0 != b.getD i 0) (List.range a.length) = none ↔ a = b := by
  rw [findP_none]
  constructor
  · intro h
    refine List.ext_getElem hl fun i h1 h2 => ?_
    have := h i (by simpa using h1)
    rw [getD_of 0 h1, getD_of 0 h2] at this
    simpa using this
  · rintro rfl i _
    simp

theorem ok_tutorref01_Same {R : Type} (a : List Int) (b : List Int) (K0 : Bool → Option R) {r : R} (h : l_tutorref01_Same a b K0 = some r) : ∃ fuel, e_tutorref01_Same (run_tutorref01_Same K0 fuel) K0 a b = some r := by
  unfold l_tutorref01_Same at h
  rcases bi_some h with ⟨hs, h⟩ | ⟨_, h⟩
  · have hs : a.length < 4611686018427387904 := of_decide_eq_true hs
    refine ⟨a.length + 1, ?_⟩
    rw [← h]
    unfold e_tutorref01_Same
    by_cases hl : a.length = b.length
    · rw [br_ne' (by omega)]
      have key := scan_all (F := fun m i => run_tutorref01_Same K0 m a b (i : Int)) (fun i => a.getD i 0 != b.getD i 0) (l := List.range a.length) (A := fun i => K0 false) (B := K0 true)
        (fun m => by
          show s_tutorref01_Same_4 _ _ _ _ _ = _
          unfold s_tutorref01_Same_4
          rw [List.length_range, br_neg (by omega)])
        (fun m i hi => by
          rw [List.length_range] at hi
          show s_tutorref01_Same_4 _ _ _ _ _ = _
          unfold s_tutorref01_Same_4
          rw [br_pos (by omega), br_pos (by omega), br_pos (by omega), br_if, Int.toNat_natCast, wr _ (by omega) (by omega), List.getElem_range]
          rfl)
      rw [List.length_range] at key
      refine key.trans ?_
      by_cases e : a = b
      · rw [(findP_zip hl).2 e]
        simp [e]
      · have : findP (fun i => a.getD i 0 != b.getD i 0) (List.range a.length) ≠ none := fun h => e ((findP_zip hl).1 h)
        cases hf : findP (fun i => a.getD i 0 != b.getD i 0) (List.range a.length) with
        | none => exact absurd hf this
        | some j => simp [e]
    · rw [br_ne (by omega)]
      have e : a ≠ b := fun e => hl (by rw [e])
      simp [e]
  · cases h

theorem same_eq {R : Type} {a b : List Int} (h : short a) (K0 : Bool → Option R) : l_tutorref01_Same a b K0 = K0 (decide (a = b)) := by
  unfold l_tutorref01_Same
  rw [br_pos h]

/-- tutor/teach.of -/
def l_teach_of {R : Type} (a : Int) (a_1 : List Int) (a_2 : List Int) (K0 : (List Int) → Option R) (K1 : Option R) (K2 : (List Int) → Option R) (K3 : Option R) : Option R :=
  bi (a == 1)
   (K0 a_1)
   (bi (a == 2)
    K1
    (bi (a == 3)
     (K2 a_2)
     K3))

/-- tutor/teach.member$1 -/
def l_teach_member_1 {R : Type} (o : Int) (o0 : Int) (K0 : Bool → Int → Option R) : Option R :=
  bi (decide (o < 0))
   (K0 true o0)
   (K0 (decide (o ≥ o0)) o0)

/-- slices.IndexFunc[[]int,int] -/
def s_slices_IndexFunc_int_int_fteach_member_1_2 {R : Type} (g27_2 : (List Int) → Int → Int → Int → Option R) (K0 : Int → Int → Option R) (s : List Int) (x7 : Int) (x8 : Int) (o0 : Int) : Option R :=
  bi (decide (x8 < x7))
   (bi (decide (0 ≤ x8 ∧ x8 < ((s.length : Nat) : Int)))
    (l_teach_member_1 (s.getD x8.toNat 0) o0
     (fun r1 r2 =>
      bi r1
       (K0 x8 r2)
       (g27_2 s x7 (IntKind.i64.wrap (x8 + 1)) r2)))
    none)
   (K0 (-1) o0)

/-- slices.IndexFunc[[]int,int] -/
def e_slices_IndexFunc_int_int_fteach_member_1 {R : Type} (g27_2 : (List Int) → Int → Int → Int → Option R) (K0 : Int → Int → Option R) (s : List Int) (o0 : Int) : Option R :=
  g27_2 s (s.length : Int) 0 o0

def run_slices_IndexFunc_int_int_fteach_member_1 {R : Type} (K0 : Int → Int → Option R) : Nat → (List Int) → Int → Int → Int → Option R
  | 0 => fun _ _ _ _ => none
  | n + 1 => s_slices_IndexFunc_int_int_fteach_member_1_2 (run_slices_IndexFunc_int_int_fteach_member_1 K0 n) K0

def l_slices_IndexFunc_int_int_fteach_member_1 {R : Type} (s : List Int) (o0 : Int) (K0 : Int → Int → Option R) : Option R :=
  bi (decide (short s)) (match findP (outside o0) s with | some i => K0 (i : Int) o0 | none => K0 (-1) o0) none

theorem ok_slices_IndexFunc_int_int_fteach_member_1 {R : Type} (s : List Int) (o0 : Int) (K0 : Int → Int → Option R) {r : R} (h : l_slices_IndexFunc_int_int_fteach_member_1 s o0 K0 = some r) : ∃ fuel, e_slices_IndexFunc_int_int_fteach_member_1 (run_slices_IndexFunc_int_int_fteach_member_1 K0 fuel) K0 s o0 = some r := by
  unfold l_slices_IndexFunc_int_int_fteach_member_1 at h
  rcases bi_some h with ⟨hs, h⟩ | ⟨_, h⟩
  · have hs : s.length < 4611686018427387904 := of_decide_eq_true hs
    refine ⟨s.length + 1, ?_⟩
    rw [← h]
    unfold e_slices_IndexFunc_int_int_fteach_member_1
    exact scan_all (F := fun m i => run_slices_IndexFunc_int_int_fteach_member_1 K0 m s (s.length : Int) (i : Int) o0) (outside o0) (l := s) (A := fun i => K0 (i : Int) o0) (B := K0 (-1) o0)
      (fun m => by
        dsimp only [run_slices_IndexFunc_int_int_fteach_member_1]
        unfold s_slices_IndexFunc_int_int_fteach_member_1_2
        rw [br_neg (by omega)])
      (fun m i hi => by
        dsimp only [run_slices_IndexFunc_int_int_fteach_member_1]
        unfold s_slices_IndexFunc_int_int_fteach_member_1_2 l_teach_member_1
        rw [br_pos (by omega), br_pos (by omega), Int.toNat_natCast, getD_of 0 hi, wr _ (by omega) (by omega)]
        unfold outside
        cases decide (s[i] < 0) <;> cases decide (s[i] ≥ o0) <;> rfl)
  · cases h


/-- slices.ContainsFunc[[]int,int] -/
def l_slices_ContainsFunc_int_int_fteach_member_1 {R : Type} (s : List Int) (o0 : Int) (K0 : Bool → Int → Option R) : Option R :=
  l_slices_IndexFunc_int_int_fteach_member_1 s o0
   (fun r1 r2 =>
    K0 (decide (r1 ≥ 0)) r2)

theorem contains_eq {R : Type} {s : List Int} (h : short s) (o0 : Int) (K0 : Bool → Int → Option R) : l_slices_ContainsFunc_int_int_fteach_member_1 s o0 K0 = K0 (!decide (findP (outside o0) s = none)) o0 := by
  unfold l_slices_ContainsFunc_int_int_fteach_member_1 l_slices_IndexFunc_int_int_fteach_member_1
  rw [br_pos h]
  cases hf : findP (outside o0) s with
  | none => rfl
  | some i =>
    have e1 : decide ((i : Int) ≥ 0) = true := decide_eq_true (by omega)
    simp only [e1]
    rfl

/-- tutor/teach.member -/
def l_teach_member {R : Type} (q : Int) (q_1 : List Int) (q_2 : Int) (q_3 : Int) (q_4 : Int) (q_5 : Int) (q_6 : List Int) (q_7 : List Int) (out : List Int) (K0 : Bool → Option R) : Option R :=
  bi (q_2 == 1)
   (bi ((out.length : Int) == 1)
    (l_slices_ContainsFunc_int_int_fteach_member_1 out 2
     (fun r1 r2 =>
      K0 (!r1)))
    (K0 false))
   (bi (q_2 == 2)
    (bi ((out.length : Int) == (q_1.length : Int))
     (l_slices_ContainsFunc_int_int_fteach_member_1 out q_4
      (fun r3 r4 =>
       K0 (!r3)))
     (K0 false))
    (K0 false))

/-- tutor/word.alphabet -/
def l_word_alphabet {R : Type} (k : Int) (K0 : Bool → Option R) : Option R :=
  bi (decide (k ≥ 1))
   (K0 (decide (k ≤ 64)))
   (K0 false)

theorem alpha_eq {R : Type} (k : Int) (K0 : Bool → Option R) : l_word_alphabet k K0 = K0 (decide (1 ≤ k ∧ k ≤ 64)) := by
  unfold l_word_alphabet
  by_cases h : k ≥ 1
  · rw [br_pos h]
    congr 1
    rw [decide_eq_decide]
    omega
  · rw [br_neg h, decide_eq_false (by omega)]

/-- tutor/word.Check -/
def s_word_Check_6 {R : Type} (g20_6 : (List Int) → Int → Int → Int → Option R) (K0 : Int → Int → Option R) (w : List Int) (k : Int) (x16 : Int) (x17 : Int) : Option R :=
  bi (decide (x17 < x16))
   (bi (decide (0 ≤ x17 ∧ x17 < ((w.length : Nat) : Int)))
    (bi (decide ((w.getD x17.toNat 0) < 0))
     (K0 x17 10)
     (bi (decide (0 ≤ x17 ∧ x17 < ((w.length : Nat) : Int)))
      (bi (decide ((w.getD x17.toNat 0) ≥ k))
       (K0 x17 10)
       (g20_6 w k x16 (IntKind.i64.wrap (x17 + 1))))
      none))
    none)
   (K0 0 0)

/-- tutor/word.Check -/
def e_word_Check {R : Type} (g20_6 : (List Int) → Int → Int → Int → Option R) (K0 : Int → Int → Option R) (w : List Int) (k : Int) : Option R :=
  l_word_alphabet k
   (fun r1 =>
    bi (!r1)
     (K0 0 1)
     (bi (decide ((w.length : Int) > 4096))
      (K0 0 2)
      (g20_6 w k (w.length : Int) 0)))

def run_word_Check {R : Type} (K0 : Int → Int → Option R) : Nat → (List Int) → Int → Int → Int → Option R
  | 0 => fun _ _ _ _ => none
  | n + 1 => s_word_Check_6 (run_word_Check K0 n) K0

def l_word_Check {R : Type} (w : List Int) (k : Int) (K0 : Int → Int → Option R) : Option R := K0 (wordS k w).1 (wordS k w).2

theorem ok_word_Check {R : Type} (w : List Int) (k : Int) (K0 : Int → Int → Option R) {r : R} (h : l_word_Check w k K0 = some r) : ∃ fuel, e_word_Check (run_word_Check K0 fuel) K0 w k = some r := by
  refine ⟨w.length + 1, ?_⟩
  rw [← h]
  unfold l_word_Check e_word_Check l_word_alphabet wordS
  by_cases h1 : 1 ≤ k
  · rw [br_pos (by omega)]
    by_cases h2 : k ≤ 64
    · rw [decide_eq_true h2, if_neg (by omega)]
      show bi false _ _ = _
      rw [br_ff]
      by_cases h3 : w.length > 4096
      · rw [br_pos (by omega), if_pos h3]
      · rw [br_neg (by omega), if_neg h3]
        have key := scan_all (F := fun m i => run_word_Check K0 m w k (w.length : Int) (i : Int)) (outside k) (l := w) (A := fun i => K0 i 10) (B := K0 0 0)
          (fun m => by
            show s_word_Check_6 _ _ _ _ _ _ = _
            unfold s_word_Check_6
            rw [br_neg (by omega)])
          (fun m i hi => by
            show s_word_Check_6 _ _ _ _ _ _ = _
            unfold s_word_Check_6
            rw [br_pos (by omega), br_pos (by omega), br_pos (p := 0 ≤ (i : Int) ∧ (i : Int) < ((w.length : Nat) : Int)) (by omega), Int.toNat_natCast, getD_of 0 hi, wr _ (by omega) (by omega)]
            unfold outside
            cases decide (w[i] < 0) <;> cases decide (w[i] ≥ k) <;> rfl)
        refine key.trans ?_
        cases findP (outside k) w <;> rfl
    · rw [decide_eq_false h2, if_pos (by omega)]
      rfl
  · rw [br_neg (by omega), if_pos (by omega)]
    rfl

/-- tutor/teach.Check -/
def l_teach_Check {R : Type} (q : Int) (q_1 : List Int) (q_2 : Int) (q_3 : Int) (q_4 : Int) (q_5 : Int) (q_6 : List Int) (q_7 : List Int) (a : Int) (a_1 : List Int) (a_2 : List Int) (K0 : Int → Option R) : Option R :=
  bi (q != 1)
   (bi (q != 2)
    (K0 30)
    (l_teach_of a a_1 a_2
     (fun r1 =>
      bi (q == 1)
       (bi ((a_2.length : Int) == 0)
        (l_teach_member q q_1 q_2 q_3 q_4 q_5 q_6 q_7 r1
         (fun r2 =>
          bi (!r2)
           (K0 100)
           (K0 0)))
        (K0 100))
       (K0 100))
     (bi (q == 2)
      (bi (!((IntKind.i64.wrap ((a_2.length : Int) + (a_1.length : Int))) == 0))
       (K0 100)
       (K0 0))
      (K0 100))
     (fun r3 =>
      l_word_Check r3 q_3
       (fun r4 r5 =>
        bi (q == 2)
         (bi ((a_1.length : Int) == 0)
          (bi (!(r5 == 0))
           (K0 100)
           (K0 0))
          (K0 100))
         (K0 100)))
     (K0 100)))
   (l_teach_of a a_1 a_2
    (fun r6 =>
     bi (q == 1)
      (bi ((a_2.length : Int) == 0)
       (l_teach_member q q_1 q_2 q_3 q_4 q_5 q_6 q_7 r6
        (fun r7 =>
         bi (!r7)
          (K0 100)
          (K0 0)))
       (K0 100))
      (K0 100))
    (bi (q == 2)
     (bi (!((IntKind.i64.wrap ((a_2.length : Int) + (a_1.length : Int))) == 0))
      (K0 100)
      (K0 0))
     (K0 100))
    (fun r8 =>
     l_word_Check r8 q_3
      (fun r9 r10 =>
       bi (q == 2)
        (bi ((a_1.length : Int) == 0)
         (bi (!(r10 == 0))
          (K0 100)
          (K0 0))
         (K0 100))
        (K0 100)))
    (K0 100))

def allIn (n : Int) (l : List Int) : Prop := findP (outside n) l = none
instance (n : Int) (l : List Int) : Decidable (allIn n l) := by unfold allIn; infer_instance

/-- May this be answered? -/
def teachC (q : Int) (q1 : List Int) (q2 q3 q4 : Int) (a : Int) (a1 a2 : List Int) : Int :=
  if q ≠ 1 ∧ q ≠ 2 then 30
  else if q = 2 then (if a1.length = 0 ∧ ((a = 2 ∧ a2.length = 0) ∨ (a = 3 ∧ (wordS q3 a2).2 = 0)) then 0 else 100)
  else if a = 1 ∧ a2.length = 0 ∧ ((q2 = 1 ∧ a1.length = 1 ∧ allIn 2 a1) ∨ (q2 = 2 ∧ a1.length = q1.length ∧ allIn q4 a1)) then 0 else 100

theorem tcheck_eq {R : Type} {q : Int} {q_1 : List Int} {q_2 q_3 q_4 q_5 : Int} {q_6 q_7 : List Int} {a : Int} {a_1 a_2 : List Int} (h : a_1.length ≤ 17592186044000) (h2 : a_2.length ≤ 17592186044000) (K0 : Int → Option R) :
    l_teach_Check q q_1 q_2 q_3 q_4 q_5 q_6 q_7 a a_1 a_2 K0 = K0 (teachC q q_1 q_2 q_3 q_4 a a_1 a_2) := by
  unfold l_teach_Check l_teach_of l_teach_member l_word_Check teachC
  have hs : short a_1 := by unfold short; omega
  simp only [contains_eq hs]
  rw [wr _ (by omega) (by omega)]
  simp only [br_if, bne_iff_ne, beq_iff_eq, decide_eq_true_eq, ne_eq, Bool.not_not]
  generalize (wordS q_3 a_2).2 = c
  have e0 : ((a_2.length : Int) + (a_1.length : Int) = 0) = (a_2.length = 0 ∧ a_1.length = 0) := propext (by omega)
  have e1 : ((a_1.length : Int) = 0) = (a_1.length = 0) := propext (by omega)
  have e2 : ((a_2.length : Int) = 0) = (a_2.length = 0) := propext (by omega)
  have e4 : ((a_1.length : Int) = 1) = (a_1.length = 1) := propext (by omega)
  have e5 : ((a_1.length : Int) = (q_1.length : Int)) = (a_1.length = q_1.length) := propext (by omega)
  unfold allIn
  simp only [Bool.not_eq_true', beq_eq_false_iff_ne, ne_eq, e0, e1, e2, e4, e5]
  by_cases h1 : q = 1
  · subst h1
    by_cases h2 : a = 1 <;> by_cases h22 : a = 2 <;> by_cases h3 : a_2.length = 0 <;> by_cases h4 : q_2 = 1 <;> by_cases h5 : q_2 = 2 <;> by_cases h6 : a_1.length = 1 <;> by_cases h7 : a_1.length = q_1.length <;> simp_all <;> (try (split <;> rfl))
  · by_cases h2 : q = 2
    · subst h2
      by_cases h2 : a_1.length = 0 <;> by_cases h3 : a_2.length = 0 <;> by_cases h4 : a = 1 <;> by_cases h5 : a = 2 <;> by_cases h52 : a = 3 <;> by_cases h6 : c = 0 <;> simp_all
    · simp_all

/-- tutor/tutorlaw10.live -/
def l_tutorlaw10_live {R : Type}  (K0 : Bool → Option R) : Option R :=
  bi (decide (0 < [111, 32, 48, 32, 49, 10, 121, 10, 110, 32, 50, 10].length))
   (l_teach_Parse [111, 32, 48, 32, 49, 10, 121, 10, 110, 32, 50, 10]
    (fun r1 r2 r3 =>
     bi (decide (0 < [111, 32, 48, 49, 10].length))
      (l_teach_Parse [111, 32, 48, 49, 10]
       (fun r4 r5 r6 =>
        l_tutorlaw10_num r1
         (fun r7 =>
          bi (r7 == 0)
           (bi (r2 == 12)
            (bi ((r3.length : Int) == 3)
             (bi (decide (0 ≤ (0 : Int) ∧ (0 : Int) < ((r3.length : Nat) : Int)))
              (l_tutorref01_Same (((r3.getD 0 (0, ([], []))).2).1) [0, 1]
               (fun r8 =>
                bi r8
                 (bi (decide (0 ≤ (1 : Int) ∧ (1 : Int) < ((r3.length : Nat) : Int)))
                  (bi (((r3.getD 1 (0, ([], []))).1) == 2)
                   (bi (decide (0 ≤ (2 : Int) ∧ (2 : Int) < ((r3.length : Nat) : Int)))
                    (l_tutorref01_Same (((r3.getD 2 (0, ([], []))).2).2) [2]
                     (fun r9 =>
                      bi r9
                       (l_tutorlaw10_num r4
                        (fun r10 =>
                         bi (r10 == 6)
                          (bi (r5 == 3)
                           (l_teach_Check 1 ([] : List Int) 1 0 2 0 ([] : List Int) ([] : List Int) 1 [2] ([] : List Int)
                            (fun r11 =>
                             l_tutorlaw10_num r11
                              (fun r12 =>
                               K0 (r12 == 100))))
                           (K0 false))
                          (K0 false)))
                       (K0 false)))
                    none)
                   (K0 false))
                  none)
                 (K0 false)))
              none)
             (K0 false))
            (K0 false))
           (K0 false))))
      none))
   none

theorem live10 {R : Type} (K0 : Bool → Option R) : l_tutorlaw10_live K0 = K0 true := by kernel_rfl

/-- (tutor/teach.said).letter -/
def l_teach_said_letter {R : Type} (s : List Int) (K0 : Int → Option R) : Option R :=
  K0 111

/-- (tutor/teach.said).numbers -/
def l_teach_said_numbers {R : Type} (s : List Int) (K0 : (List Int) → Option R) : Option R :=
  K0 s

/-- (tutor/teach.agreed).letter -/
def l_teach_agreed_letter {R : Type}  (K0 : Int → Option R) : Option R :=
  K0 121

/-- (tutor/teach.agreed).numbers -/
def l_teach_agreed_numbers {R : Type}  (K0 : (List Int) → Option R) : Option R :=
  K0 ([] : List Int)

/-- (tutor/teach.refuted).letter -/
def l_teach_refuted_letter {R : Type} (r : List Int) (K0 : Int → Option R) : Option R :=
  K0 110

/-- (tutor/teach.refuted).numbers -/
def l_teach_refuted_numbers {R : Type} (r : List Int) (K0 : (List Int) → Option R) : Option R :=
  K0 r

/-- strconv.AppendInt -/
def l_strconv_AppendInt {R : Type} (i base : Int) (K0 : List Int → Option R) : Option R := l_AppendInt i base K0

/-- tutor/text.Put -/
def l_text_Put {R : Type} (n : Int) (K0 : (List Int) → Option R) : Option R :=
  l_strconv_AppendInt n 10
   (fun r1 =>
    K0 r1)

theorem put_eq {R : Type} {n : Int} (h : inI n) (K0 : List Int → Option R) : l_text_Put n K0 = K0 (itoaI n) := by
  unfold l_text_Put l_strconv_AppendInt l_AppendInt
  unfold inI at h
  rw [br_pos ⟨rfl, h⟩]

/-- tutor/teach.Show -/
def s_teach_Show_3 {R : Type} (g8_3 : (List (Int × (List Int × List Int))) → Int → Int → (List Int) → Option R) (g8_9 : (List (Int × (List Int × List Int))) → Int → Int → (List Int) → Int → Int → (List Int) → Option R) (g8_9b : (List (Int × (List Int × List Int))) → Int → Int → Int → Int → (List Int) → (List Int) → Option R) (K0 : (List Int) → Option R) (x9 : List (Int × (List Int × List Int))) (x10 : Int) (x11 : Int) (o0 : List Int) : Option R :=
  bi (decide (x11 < x10))
   (bi (decide (0 ≤ x11 ∧ x11 < ((x9.length : Nat) : Int)))
    (l_teach_of ((x9.getD x11.toNat (0, ([], []))).1) (((x9.getD x11.toNat (0, ([], []))).2).1) (((x9.getD x11.toNat (0, ([], []))).2).2)
     (fun r1 =>
      l_teach_said_letter r1
       (fun r2 =>
        bi (decide ((o0.length + [r2].length) * 1 ≤ lim))
         (l_teach_said_numbers r1
          (fun r3 =>
           g8_9 x9 x10 x11 r3 (r3.length : Int) 0 (o0 ++ [r2])))
         none))
     (l_teach_agreed_letter
      (fun r4 =>
       bi (decide ((o0.length + [r4].length) * 1 ≤ lim))
        (l_teach_agreed_numbers
         (fun r5 =>
          g8_9b x9 x10 x11 (r5.length : Int) 0 (o0 ++ [r4]) r5))
        none))
     (fun r6 =>
      l_teach_refuted_letter r6
       (fun r7 =>
        bi (decide ((o0.length + [r7].length) * 1 ≤ lim))
         (l_teach_refuted_numbers r6
          (fun r8 =>
           g8_9 x9 x10 x11 r8 (r8.length : Int) 0 (o0 ++ [r7])))
         none))
     (g8_3 x9 x10 (IntKind.i64.wrap (x11 + 1)) o0))
    none)
   (K0 o0)

/-- tutor/teach.Show -/
def s_teach_Show_9a {R : Type} (g8_3 : (List (Int × (List Int × List Int))) → Int → Int → (List Int) → Option R) (g8_9 : (List (Int × (List Int × List Int))) → Int → Int → (List Int) → Int → Int → (List Int) → Option R) (g8_9b : (List (Int × (List Int × List Int))) → Int → Int → Int → Int → (List Int) → (List Int) → Option R) (K0 : (List Int) → Option R) (x9 : List (Int × (List Int × List Int))) (x10 : Int) (x11 : Int) (x25 : List Int) (x26 : Int) (x27 : Int) (o0 : List Int) : Option R :=
  bi (decide (x27 < x26))
   (bi (decide (0 ≤ x27 ∧ x27 < ((x25.length : Nat) : Int)))
    (bi (decide ((o0.length + [32].length) * 1 ≤ lim))
     (l_text_Put (x25.getD x27.toNat 0)
      (fun r9 =>
       bi (decide (((o0 ++ [32]).length + r9.length) * 1 ≤ lim))
        (g8_9 x9 x10 x11 x25 x26 (IntKind.i64.wrap (x27 + 1)) ((o0 ++ [32]) ++ r9))
        none))
     none)
    none)
   (bi (decide ((o0.length + [10].length) * 1 ≤ lim))
    (g8_3 x9 x10 (IntKind.i64.wrap (x11 + 1)) (o0 ++ [10]))
    none)

/-- tutor/teach.Show -/
def s_teach_Show_9b {R : Type} (g8_3 : (List (Int × (List Int × List Int))) → Int → Int → (List Int) → Option R) (g8_9 : (List (Int × (List Int × List Int))) → Int → Int → (List Int) → Int → Int → (List Int) → Option R) (g8_9b : (List (Int × (List Int × List Int))) → Int → Int → Int → Int → (List Int) → (List Int) → Option R) (K0 : (List Int) → Option R) (x9 : List (Int × (List Int × List Int))) (x10 : Int) (x11 : Int) (x26 : Int) (x27 : Int) (o0 : List Int) (o1 : List Int) : Option R :=
  bi (decide (x27 < x26))
   (bi (decide (0 ≤ x27 ∧ x27 < ((o1.length : Nat) : Int)))
    (bi (decide ((o0.length + [32].length) * 1 ≤ lim))
     (l_text_Put (o1.getD x27.toNat 0)
      (fun r10 =>
       bi (decide (((o0 ++ [32]).length + r10.length) * 1 ≤ lim))
        (g8_9b x9 x10 x11 x26 (IntKind.i64.wrap (x27 + 1)) ((o0 ++ [32]) ++ r10) o1)
        none))
     none)
    none)
   (bi (decide ((o0.length + [10].length) * 1 ≤ lim))
    (g8_3 x9 x10 (IntKind.i64.wrap (x11 + 1)) (o0 ++ [10]))
    none)

/-- tutor/teach.Show -/
def e_teach_Show {R : Type} (g8_3 : (List (Int × (List Int × List Int))) → Int → Int → (List Int) → Option R) (g8_9 : (List (Int × (List Int × List Int))) → Int → Int → (List Int) → Int → Int → (List Int) → Option R) (g8_9b : (List (Int × (List Int × List Int))) → Int → Int → Int → Int → (List Int) → (List Int) → Option R) (K0 : (List Int) → Option R) (l : List (Int × (List Int × List Int))) : Option R :=
  g8_3 l (l.length : Int) 0 ([] : List Int)

def run_teach_Show {R : Type} (K0 : (List Int) → Option R) : Nat → ((List (Int × (List Int × List Int))) → Int → Int → (List Int) → Option R) × ((List (Int × (List Int × List Int))) → Int → Int → (List Int) → Int → Int → (List Int) → Option R) × ((List (Int × (List Int × List Int))) → Int → Int → Int → Int → (List Int) → (List Int) → Option R)
  | 0 => (fun _ _ _ _ => none, fun _ _ _ _ _ _ _ => none, fun _ _ _ _ _ _ _ => none)
  | n + 1 => (s_teach_Show_3 (run_teach_Show K0 n).1 (run_teach_Show K0 n).2.1 (run_teach_Show K0 n).2.2 K0, s_teach_Show_9a (run_teach_Show K0 n).1 (run_teach_Show K0 n).2.1 (run_teach_Show K0 n).2.2 K0, s_teach_Show_9b (run_teach_Show K0 n).1 (run_teach_Show K0 n).2.1 (run_teach_Show K0 n).2.2 K0)

/-- Some numbers, each with a blank ahead. -/
def flatN (n : List Int) : List Int := n.flatMap fun x => 32 :: itoaI x

/-- An answer's line. -/
def showA (a : Int × (List Int × List Int)) : List Int :=
  if a.1 = 1 then 111 :: flatN a.2.1 ++ [10] else if a.1 = 2 then [121, 10] else if a.1 = 3 then 110 :: flatN a.2.2 ++ [10] else []

def showS (l : List (Int × (List Int × List Int))) : List Int := l.flatMap showA

def rowsOk (l : List (Int × (List Int × List Int))) : Prop := ∀ a ∈ l, okL a.2.1 ∧ okL a.2.2
instance (l : List (Int × (List Int × List Int))) : Decidable (rowsOk l) := by unfold rowsOk; infer_instance

def showOk (l : List (Int × (List Int × List Int))) : Prop := short l ∧ rowsOk l ∧ (showS l).length ≤ 1099511627776
instance (l : List (Int × (List Int × List Int))) : Decidable (showOk l) := by unfold showOk; infer_instance

def l_teach_Show {R : Type} (l : List (Int × (List Int × List Int))) (K0 : (List Int) → Option R) : Option R := bi (decide (showOk l)) (K0 (showS l)) none

theorem flatN_cons (x : Int) (n : List Int) : flatN (x :: n) = 32 :: itoaI x ++ flatN n := rfl

theorem showN_run {R : Type} {l : List (Int × (List Int × List Int))} {n : List Int} {i : Int} (hn : okL n) (hi : 0 ≤ i ∧ i < 4611686018427387904) (K0 : (List Int) → Option R) {v : Option R} :
    ∀ (d k : Nat) (o : List Int), k + d = n.length → (o ++ flatN (n.drop k) ++ [10]).length ≤ 1099511627776 →
      Reach (fun m => (run_teach_Show K0 m).1 l (l.length : Int) (i + 1) (o ++ flatN (n.drop k) ++ [10])) v → Reach (fun m => (run_teach_Show K0 m).2.1 l (l.length : Int) i n (n.length : Int) (k : Int) o) v := by
  have hs : n.length < 4611686018427387904 := hn.1
  intro d
  induction d with
  | zero =>
    intro k o hk hl hv
    have e : n.drop k = [] := List.drop_of_length_le (by omega)
    rw [e] at hv hl
    refine .step (fun m => ?_) hv
    rw [show (run_teach_Show K0 (m + 1)).2.1 = s_teach_Show_9a (run_teach_Show K0 m).1 (run_teach_Show K0 m).2.1 (run_teach_Show K0 m).2.2 K0 from rfl]
    unfold s_teach_Show_9a
    have hl1 : (o.length + ([10] : List Nat).length) * 1 ≤ lim := by
      unfold lim
      simp [flatN] at hl ⊢
      omega
    rw [br_neg (by omega), br_pos hl1, wr (i + 1) (by omega) (by omega)]
    simp [flatN]
  | succ d ih =>
    intro k o hk hl hv
    have h1 : k < n.length := by omega
    rw [List.drop_eq_getElem_cons h1, flatN_cons] at hv hl
    have hx : inI n[k] := hn.2 _ (List.getElem_mem h1)
    refine .step (fun m => ?_) (ih (k + 1) ((o ++ [32]) ++ itoaI n[k]) (by omega) (by simpa using hl) (by simpa using hv))
    rw [show (run_teach_Show K0 (m + 1)).2.1 = s_teach_Show_9a (run_teach_Show K0 m).1 (run_teach_Show K0 m).2.1 (run_teach_Show K0 m).2.2 K0 from rfl]
    unfold s_teach_Show_9a
    have hl1 : (o.length + ([32] : List Nat).length) * 1 ≤ lim := by
      unfold lim
      simp at hl ⊢
      omega
    have hl2 : ((o ++ [32]).length + (itoaI n[k]).length) * 1 ≤ lim := by
      unfold lim
      simp at hl ⊢
      omega
    rw [br_pos (by omega), br_pos (by omega), br_pos hl1, Int.toNat_natCast, getD_of 0 h1, put_eq hx]
    try dsimp only
    rw [br_pos hl2, wr _ (by omega) (by omega)]
    rfl

theorem show_run {R : Type} {l : List (Int × (List Int × List Int))} (hs : short l) (hr : rowsOk l) (K0 : (List Int) → Option R) :
    ∀ (d i : Nat) (o : List Int), i + d = l.length → (o ++ showS (l.drop i)).length ≤ 1099511627776 → Reach (fun m => (run_teach_Show K0 m).1 l (l.length : Int) (i : Int) o) (K0 (o ++ showS (l.drop i))) := by
  unfold short at hs
  intro d
  induction d with
  | zero =>
    intro i o hi hl
    refine .now fun m => ?_
    rw [show (run_teach_Show K0 (m + 1)).1 = s_teach_Show_3 (run_teach_Show K0 m).1 (run_teach_Show K0 m).2.1 (run_teach_Show K0 m).2.2 K0 from rfl]
    unfold s_teach_Show_3
    rw [br_neg (by omega), List.drop_of_length_le (by omega)]
    simp [showS]
  | succ d ih =>
    intro i o hi hl
    have h1 : i < l.length := by omega
    rw [List.drop_eq_getElem_cons h1] at hl ⊢
    have hm := hr _ (List.getElem_mem h1)
    have e0 : showS (l[i] :: l.drop (i + 1)) = showA l[i] ++ showS (l.drop (i + 1)) := rfl
    rw [e0] at hl ⊢
    have ih2 := ih (i + 1) (o ++ showA l[i]) (by omega) (by simpa using hl)
    rw [List.append_assoc] at ih2
    have key : ∀ m, (run_teach_Show K0 (m + 1)).1 l (l.length : Int) (i : Int) o =
        if l[i].1 = 1 then (run_teach_Show K0 m).2.1 l (l.length : Int) (i : Int) l[i].2.1 (l[i].2.1.length : Int) 0 (o ++ [111])
        else if l[i].1 = 2 then (run_teach_Show K0 m).2.2 l (l.length : Int) (i : Int) 0 0 (o ++ [121]) []
        else if l[i].1 = 3 then (run_teach_Show K0 m).2.1 l (l.length : Int) (i : Int) l[i].2.2 (l[i].2.2.length : Int) 0 (o ++ [110])
        else (run_teach_Show K0 m).1 l (l.length : Int) ((i : Int) + 1) o := by
      intro m
      rw [show (run_teach_Show K0 (m + 1)).1 = s_teach_Show_3 (run_teach_Show K0 m).1 (run_teach_Show K0 m).2.1 (run_teach_Show K0 m).2.2 K0 from rfl]
      unfold s_teach_Show_3 l_teach_of l_teach_said_letter l_teach_said_numbers l_teach_agreed_letter l_teach_agreed_numbers l_teach_refuted_letter l_teach_refuted_numbers
      have hl1 : ∀ c : Int, (o.length + ([c] : List Int).length) * 1 ≤ lim := by
        intro c
        unfold lim
        simp at hl ⊢
        omega
      rw [br_pos (by omega), br_pos (by omega), Int.toNat_natCast, getD_of (0, ([], [])) h1, wr ((i : Int) + 1) (by omega) (by omega)]
      by_cases c1 : l[i].1 = 1
      · rw [br_eq c1, if_pos c1]
        exact br_pos (hl1 _)
      · rw [br_eq' c1, if_neg c1]
        by_cases c2 : l[i].1 = 2
        · rw [br_eq c2, if_pos c2]
          exact br_pos (hl1 _)
        · rw [br_eq' c2, if_neg c2]
          by_cases c3 : l[i].1 = 3
          · rw [br_eq c3, if_pos c3]
            exact br_pos (hl1 _)
          · rw [br_eq' c3, if_neg c3]
    by_cases c1 : l[i].1 = 1
    · have ea : showA l[i] = 111 :: flatN l[i].2.1 ++ [10] := if_pos c1
      rw [ea] at ih2 hl ⊢
      refine .step (fun m => (key m).trans (if_pos c1)) (showN_run hm.1 (by omega) K0 l[i].2.1.length 0 (o ++ [111]) (by omega) ?_ ?_)
      · simp at hl ⊢
        omega
      · simpa using ih2
    · by_cases c2 : l[i].1 = 2
      · have ea : showA l[i] = [121, 10] := (if_neg c1).trans (if_pos c2)
        rw [ea] at ih2 hl ⊢
        refine .step (fun m => (key m).trans ((if_neg c1).trans (if_pos c2))) (.step (fun m => ?_) (by simpa using ih2))
        rw [show (run_teach_Show K0 (m + 1)).2.2 = s_teach_Show_9b (run_teach_Show K0 m).1 (run_teach_Show K0 m).2.1 (run_teach_Show K0 m).2.2 K0 from rfl]
        unfold s_teach_Show_9b
        have hl1 : ((o ++ [121]).length + ([10] : List Nat).length) * 1 ≤ lim := by
          unfold lim
          simp at hl ⊢
          omega
        rw [br_neg (by omega), br_pos hl1, wr ((i : Int) + 1) (by omega) (by omega)]
        simp
      · by_cases c3 : l[i].1 = 3
        · have ea : showA l[i] = 110 :: flatN l[i].2.2 ++ [10] := (if_neg c1).trans ((if_neg c2).trans (if_pos c3))
          rw [ea] at ih2 hl ⊢
          refine .step (fun m => (key m).trans ((if_neg c1).trans ((if_neg c2).trans (if_pos c3)))) (showN_run hm.2 (by omega) K0 l[i].2.2.length 0 (o ++ [110]) (by omega) ?_ ?_)
          · simp at hl ⊢
            omega
          · simpa using ih2
        · have ea : showA l[i] = [] := (if_neg c1).trans ((if_neg c2).trans (if_neg c3))
          rw [ea] at ih2 hl ⊢
          refine .step (fun m => (key m).trans ((if_neg c1).trans ((if_neg c2).trans (if_neg c3)))) (by simpa using ih2)

theorem ok_teach_Show {R : Type} (l : List (Int × (List Int × List Int))) (K0 : (List Int) → Option R) {r : R} (h : l_teach_Show l K0 = some r) : ∃ fuel, e_teach_Show (run_teach_Show K0 fuel).1 (run_teach_Show K0 fuel).2.1 (run_teach_Show K0 fuel).2.2 K0 l = some r := by
  unfold l_teach_Show at h
  rcases bi_some h with ⟨hs, h⟩ | ⟨_, h⟩
  · obtain ⟨h1, h2, h3⟩ := of_decide_eq_true hs
    rw [← h]
    obtain ⟨n, hn⟩ := (show_run h1 h2 K0 l.length 0 [] (by omega) (by simpa using h3)).get
    refine ⟨n, ?_⟩
    unfold e_teach_Show
    simpa using hn
  · cases h

/-- tutor/tutorref08.Put -/
def e_tutorref08_Put (l_tutorref08_Put : {R : Type} → Int → ((List Int) → Option R) → Option R) {R : Type} (n : Int) (K0 : (List Int) → Option R) : Option R :=
  bi (decide (n < 0))
   (bi (decide (n > (-10)))
    (bi (decide (([45].length + [IntKind.u8.wrap (IntKind.i64.wrap (48 - n))].length) * 1 ≤ lim))
     (K0 ([45] ++ [IntKind.u8.wrap (IntKind.i64.wrap (48 - n))]))
     none)
    (bi (decide (n < 0))
     (l_tutorref08_Put (IntKind.i64.wrap (n.tdiv 10))
      (fun r1 =>
       bi (decide ((r1.length + [IntKind.u8.wrap (IntKind.i64.wrap (48 - (n.tmod 10)))].length) * 1 ≤ lim))
        (K0 (r1 ++ [IntKind.u8.wrap (IntKind.i64.wrap (48 - (n.tmod 10)))]))
        none))
     (bi (decide (n < 10))
      (K0 [IntKind.u8.wrap (IntKind.i64.wrap (48 + n))])
      (l_tutorref08_Put (IntKind.i64.wrap (n.tdiv 10))
       (fun r2 =>
        bi (decide ((r2.length + [IntKind.u8.wrap (IntKind.i64.wrap (48 + (n.tmod 10)))].length) * 1 ≤ lim))
         (K0 (r2 ++ [IntKind.u8.wrap (IntKind.i64.wrap (48 + (n.tmod 10)))]))
         none)))))
   (bi (decide (n < 0))
    (l_tutorref08_Put (IntKind.i64.wrap (n.tdiv 10))
     (fun r3 =>
      bi (decide ((r3.length + [IntKind.u8.wrap (IntKind.i64.wrap (48 - (n.tmod 10)))].length) * 1 ≤ lim))
       (K0 (r3 ++ [IntKind.u8.wrap (IntKind.i64.wrap (48 - (n.tmod 10)))]))
       none))
    (bi (decide (n < 10))
     (K0 [IntKind.u8.wrap (IntKind.i64.wrap (48 + n))])
     (l_tutorref08_Put (IntKind.i64.wrap (n.tdiv 10))
      (fun r4 =>
       bi (decide ((r4.length + [IntKind.u8.wrap (IntKind.i64.wrap (48 + (n.tmod 10)))].length) * 1 ≤ lim))
        (K0 (r4 ++ [IntKind.u8.wrap (IntKind.i64.wrap (48 + (n.tmod 10)))]))
        none))))

def run_tutorref08_Put : Nat → {R : Type} → Int → ((List Int) → Option R) → Option R
  | 0, _, _, _ => none
  | fuel + 1, _, n, K0 => e_tutorref08_Put (@run_tutorref08_Put fuel) n K0

def l_tutorref08_Put {R : Type} (n : Int) (K0 : (List Int) → Option R) : Option R := bi (decide (inI n)) (K0 (itoaI n)) none

theorem rput_run : ∀ (k : Nat) (n : Int), n.natAbs < k → inI n → ∃ m, ∀ (R : Type) (K0 : List Int → Option R), run_tutorref08_Put m n K0 = K0 (itoaI n)
  | 0, n, h, _ => absurd h (Nat.not_lt_zero _)
  | k + 1, n, h, hn => by
    have hn' := hn
    unfold inI at hn'
    by_cases c0 : n > -10 ∧ n < 10
    · refine ⟨1, fun R K0 => ?_⟩
      show e_tutorref08_Put (@run_tutorref08_Put 0) n K0 = _
      unfold e_tutorref08_Put
      by_cases c1 : n < 0
      · rw [br_pos c1, br_pos c0.1, wr (48 - n) (by omega) (by omega), wr8 (48 - n) (by omega) (by omega), itoaI_mone c1 c0.1]
        rfl
      · rw [br_neg c1, br_neg c1, br_pos c0.2, wr (48 + n) (by omega) (by omega), wr8 (48 + n) (by omega) (by omega), itoaI_one (by omega) c0.2]
    · have hd : (n.tdiv 10).natAbs < k ∧ inI (n.tdiv 10) ∧ -10 < n.tmod 10 ∧ n.tmod 10 < 10 ∧ (n < 0 → n.tmod 10 ≤ 0) ∧ (¬ n < 0 → 0 ≤ n.tmod 10) := by
        unfold inI
        by_cases c : n < 0
        · obtain ⟨u, rfl⟩ : ∃ u : Nat, n = -(u : Int) := ⟨n.natAbs, by omega⟩
          rw [Int.neg_tdiv, Int.tdiv_eq_ediv_of_nonneg (by omega), Int.neg_tmod, Int.tmod_eq_emod_of_nonneg (by omega)]
          omega
        · rw [Int.tdiv_eq_ediv_of_nonneg (by omega), Int.tmod_eq_emod_of_nonneg (by omega)]
          omega
      obtain ⟨hk, hi, hm⟩ := hd
      obtain ⟨m, ih⟩ := rput_run k (n.tdiv 10) hk hi
      have hl := itoaI_len hi
      have hi' := hi
      unfold inI at hi'
      refine ⟨m + 1, fun R K0 => ?_⟩
      show e_tutorref08_Put (@run_tutorref08_Put m) n K0 = _
      have hlim : ((itoaI (n.tdiv 10)).length + ([0] : List Int).length) * 1 ≤ lim := by
        unfold lim
        simp
        omega
      rw [itoaI_step c0]
      unfold e_tutorref08_Put
      by_cases c1 : n < 0
      · rw [br_pos c1, br_neg (by omega), br_pos c1, wr (n.tdiv 10) (by omega) (by omega), ih, wr (48 - n.tmod 10) (by omega) (by omega), wr8 (48 - n.tmod 10) (by omega) (by omega), if_pos c1]
        exact br_pos hlim
      · rw [br_neg c1, br_neg c1, br_neg (by omega), wr (n.tdiv 10) (by omega) (by omega), ih, wr (48 + n.tmod 10) (by omega) (by omega), wr8 (48 + n.tmod 10) (by omega) (by omega), if_neg c1]
        exact br_pos hlim

theorem ok_tutorref08_Put {R : Type} (n : Int) (K0 : (List Int) → Option R) {r : R} (h : l_tutorref08_Put n K0 = some r) : ∃ m, run_tutorref08_Put m n K0 = some r := by
  unfold l_tutorref08_Put at h
  rcases bi_some h with ⟨hs, h⟩ | ⟨_, h⟩
  · obtain ⟨m, hm⟩ := rput_run (n.natAbs + 1) n (by omega) (of_decide_eq_true hs)
    exact ⟨m, by rw [hm]; exact h⟩
  · cases h

theorem rput_eq {R : Type} {n : Int} (h : inI n) (K0 : List Int → Option R) : l_tutorref08_Put n K0 = K0 (itoaI n) := br_pos h

/-- tutor/tutorref10.Show -/
def s_tutorref10_Show_3 {R : Type} (g9_3 : (List (Int × (List Int × List Int))) → Int → (List Int) → Option R) (g9_16 : (List (Int × (List Int × List Int))) → Int → (List Int) → Int → (List Int) → Option R) (g9_16b : (List (Int × (List Int × List Int))) → Int → Int → (List Int) → (List Int) → Option R) (K0 : (List Int) → Option R) (l : List (Int × (List Int × List Int))) (i : Int) (o0 : List Int) : Option R :=
  bi (decide (i < (l.length : Int)))
   (bi (decide (0 ≤ i ∧ i < ((l.length : Nat) : Int)))
    (bi (decide (0 ≤ i ∧ i < ((l.length : Nat) : Int)))
     (bi (((l.getD i.toNat (0, ([], []))).1) == 1)
      (bi (decide ((o0.length + [111].length) * 1 ≤ lim))
       (g9_16 l i (((l.getD i.toNat (0, ([], []))).2).1) 0 (o0 ++ [111]))
       none)
      (bi (((l.getD i.toNat (0, ([], []))).1) == 2)
       (bi (decide ((o0.length + [121].length) * 1 ≤ lim))
        (g9_16b l i 0 (o0 ++ [121]) ([] : List Int))
        none)
       (bi (((l.getD i.toNat (0, ([], []))).1) == 3)
        (bi (decide ((o0.length + [110].length) * 1 ≤ lim))
         (bi (decide (0 ≤ i ∧ i < ((l.length : Nat) : Int)))
          (g9_16 l i (((l.getD i.toNat (0, ([], []))).2).2) 0 (o0 ++ [110]))
          none)
         none)
        (g9_3 l (IntKind.i64.wrap (i + 1)) o0))))
     none)
    none)
   (K0 o0)

/-- tutor/tutorref10.Show -/
def s_tutorref10_Show_16a {R : Type} (g9_3 : (List (Int × (List Int × List Int))) → Int → (List Int) → Option R) (g9_16 : (List (Int × (List Int × List Int))) → Int → (List Int) → Int → (List Int) → Option R) (g9_16b : (List (Int × (List Int × List Int))) → Int → Int → (List Int) → (List Int) → Option R) (K0 : (List Int) → Option R) (l : List (Int × (List Int × List Int))) (i : Int) (n : List Int) (k : Int) (o0 : List Int) : Option R :=
  bi (decide (k < (n.length : Int)))
   (bi (decide (0 ≤ k ∧ k < ((n.length : Nat) : Int)))
    (bi (decide ((o0.length + [32].length) * 1 ≤ lim))
     (l_tutorref08_Put (n.getD k.toNat 0)
      (fun r1 =>
       bi (decide (((o0 ++ [32]).length + r1.length) * 1 ≤ lim))
        (g9_16 l i n (IntKind.i64.wrap (k + 1)) ((o0 ++ [32]) ++ r1))
        none))
     none)
    none)
   (bi (decide ((o0.length + [10].length) * 1 ≤ lim))
    (g9_3 l (IntKind.i64.wrap (i + 1)) (o0 ++ [10]))
    none)

/-- tutor/tutorref10.Show -/
def s_tutorref10_Show_16b {R : Type} (g9_3 : (List (Int × (List Int × List Int))) → Int → (List Int) → Option R) (g9_16 : (List (Int × (List Int × List Int))) → Int → (List Int) → Int → (List Int) → Option R) (g9_16b : (List (Int × (List Int × List Int))) → Int → Int → (List Int) → (List Int) → Option R) (K0 : (List Int) → Option R) (l : List (Int × (List Int × List Int))) (i : Int) (k : Int) (o0 : List Int) (o1 : List Int) : Option R :=
  bi (decide (k < (o1.length : Int)))
   (bi (decide (0 ≤ k ∧ k < ((o1.length : Nat) : Int)))
    (both
     (both
      (bi (decide ((o0.length + [32].length) * 1 ≤ lim))
       (l_tutorref08_Put (o1.getD k.toNat 0)
        (fun r2 =>
         bi (decide (((o0 ++ [32]).length + r2.length) * 1 ≤ lim))
          (g9_16b l i (IntKind.i64.wrap (k + 1)) ((o0 ++ [32]) ++ r2) o1)
          none))
       none)
      (bi (decide ((o0.length + [32].length) * 1 ≤ lim))
       (l_tutorref08_Put (o1.getD k.toNat 0)
        (fun r3 =>
         bi (decide (((o0 ++ [32]).length + r3.length) * 1 ≤ lim))
          (g9_16b l i (IntKind.i64.wrap (k + 1)) ((o0 ++ [32]) ++ r3) o1)
          none))
       none))
     (bi (decide ((o0.length + [32].length) * 1 ≤ lim))
      (l_tutorref08_Put (o1.getD k.toNat 0)
       (fun r4 =>
        bi (decide (((o0 ++ [32]).length + r4.length) * 1 ≤ lim))
         (g9_16b l i (IntKind.i64.wrap (k + 1)) ((o0 ++ [32]) ++ r4) o1)
         none))
      none))
    none)
   (bi (decide ((o0.length + [10].length) * 1 ≤ lim))
    (g9_3 l (IntKind.i64.wrap (i + 1)) (o0 ++ [10]))
    none)

/-- tutor/tutorref10.Show -/
def e_tutorref10_Show {R : Type} (g9_3 : (List (Int × (List Int × List Int))) → Int → (List Int) → Option R) (g9_16 : (List (Int × (List Int × List Int))) → Int → (List Int) → Int → (List Int) → Option R) (g9_16b : (List (Int × (List Int × List Int))) → Int → Int → (List Int) → (List Int) → Option R) (K0 : (List Int) → Option R) (l : List (Int × (List Int × List Int))) : Option R :=
  g9_3 l 0 ([] : List Int)

def run_tutorref10_Show {R : Type} (K0 : (List Int) → Option R) : Nat → ((List (Int × (List Int × List Int))) → Int → (List Int) → Option R) × ((List (Int × (List Int × List Int))) → Int → (List Int) → Int → (List Int) → Option R) × ((List (Int × (List Int × List Int))) → Int → Int → (List Int) → (List Int) → Option R)
  | 0 => (fun _ _ _ => none, fun _ _ _ _ _ => none, fun _ _ _ _ _ => none)
  | n + 1 => (s_tutorref10_Show_3 (run_tutorref10_Show K0 n).1 (run_tutorref10_Show K0 n).2.1 (run_tutorref10_Show K0 n).2.2 K0, s_tutorref10_Show_16a (run_tutorref10_Show K0 n).1 (run_tutorref10_Show K0 n).2.1 (run_tutorref10_Show K0 n).2.2 K0, s_tutorref10_Show_16b (run_tutorref10_Show K0 n).1 (run_tutorref10_Show K0 n).2.1 (run_tutorref10_Show K0 n).2.2 K0)

def l_tutorref10_Show {R : Type} (l : List (Int × (List Int × List Int))) (K0 : (List Int) → Option R) : Option R := bi (decide (showOk l)) (K0 (showS l)) none

theorem rshowN_run {R : Type} {l : List (Int × (List Int × List Int))} {n : List Int} {i : Int} (hn : okL n) (hi : 0 ≤ i ∧ i < 4611686018427387904) (K0 : (List Int) → Option R) {v : Option R} :
    ∀ (d k : Nat) (o : List Int), k + d = n.length → (o ++ flatN (n.drop k) ++ [10]).length ≤ 1099511627776 →
      Reach (fun m => (run_tutorref10_Show K0 m).1 l (i + 1) (o ++ flatN (n.drop k) ++ [10])) v → Reach (fun m => (run_tutorref10_Show K0 m).2.1 l i n (k : Int) o) v := by
  have hs : n.length < 4611686018427387904 := hn.1
  intro d
  induction d with
  | zero =>
    intro k o hk hl hv
    have e : n.drop k = [] := List.drop_of_length_le (by omega)
    rw [e] at hv hl
    refine .step (fun m => ?_) hv
    rw [show (run_tutorref10_Show K0 (m + 1)).2.1 = s_tutorref10_Show_16a (run_tutorref10_Show K0 m).1 (run_tutorref10_Show K0 m).2.1 (run_tutorref10_Show K0 m).2.2 K0 from rfl]
    unfold s_tutorref10_Show_16a
    have hl1 : (o.length + ([10] : List Nat).length) * 1 ≤ lim := by
      unfold lim
      simp [flatN] at hl ⊢
      omega
    rw [br_neg (by omega), br_pos hl1, wr (i + 1) (by omega) (by omega)]
    simp [flatN]
  | succ d ih =>
    intro k o hk hl hv
    have h1 : k < n.length := by omega
    rw [List.drop_eq_getElem_cons h1, flatN_cons] at hv hl
    have hx : inI n[k] := hn.2 _ (List.getElem_mem h1)
    refine .step (fun m => ?_) (ih (k + 1) ((o ++ [32]) ++ itoaI n[k]) (by omega) (by simpa using hl) (by simpa using hv))
    rw [show (run_tutorref10_Show K0 (m + 1)).2.1 = s_tutorref10_Show_16a (run_tutorref10_Show K0 m).1 (run_tutorref10_Show K0 m).2.1 (run_tutorref10_Show K0 m).2.2 K0 from rfl]
    unfold s_tutorref10_Show_16a
    have hl1 : (o.length + ([32] : List Nat).length) * 1 ≤ lim := by
      unfold lim
      simp at hl ⊢
      omega
    have hl2 : ((o ++ [32]).length + (itoaI n[k]).length) * 1 ≤ lim := by
      unfold lim
      simp at hl ⊢
      omega
    rw [br_pos (by omega), br_pos (by omega), br_pos hl1, Int.toNat_natCast, getD_of 0 h1, rput_eq hx]
    try dsimp only
    rw [br_pos hl2, wr _ (by omega) (by omega)]
    rfl

theorem rshow_run {R : Type} {l : List (Int × (List Int × List Int))} (hs : short l) (hr : rowsOk l) (K0 : (List Int) → Option R) :
    ∀ (d i : Nat) (o : List Int), i + d = l.length → (o ++ showS (l.drop i)).length ≤ 1099511627776 → Reach (fun m => (run_tutorref10_Show K0 m).1 l (i : Int) o) (K0 (o ++ showS (l.drop i))) := by
  unfold short at hs
  intro d
  induction d with
  | zero =>
    intro i o hi hl
    refine .now fun m => ?_
    rw [show (run_tutorref10_Show K0 (m + 1)).1 = s_tutorref10_Show_3 (run_tutorref10_Show K0 m).1 (run_tutorref10_Show K0 m).2.1 (run_tutorref10_Show K0 m).2.2 K0 from rfl]
    unfold s_tutorref10_Show_3
    rw [br_neg (by omega), List.drop_of_length_le (by omega)]
    simp [showS]
  | succ d ih =>
    intro i o hi hl
    have h1 : i < l.length := by omega
    rw [List.drop_eq_getElem_cons h1] at hl ⊢
    have hm := hr _ (List.getElem_mem h1)
    have e0 : showS (l[i] :: l.drop (i + 1)) = showA l[i] ++ showS (l.drop (i + 1)) := rfl
    rw [e0] at hl ⊢
    have ih2 := ih (i + 1) (o ++ showA l[i]) (by omega) (by simpa using hl)
    rw [List.append_assoc] at ih2
    have key : ∀ m, (run_tutorref10_Show K0 (m + 1)).1 l (i : Int) o =
        if l[i].1 = 1 then (run_tutorref10_Show K0 m).2.1 l (i : Int) l[i].2.1 0 (o ++ [111])
        else if l[i].1 = 2 then (run_tutorref10_Show K0 m).2.2 l (i : Int) 0 (o ++ [121]) []
        else if l[i].1 = 3 then (run_tutorref10_Show K0 m).2.1 l (i : Int) l[i].2.2 0 (o ++ [110])
        else (run_tutorref10_Show K0 m).1 l ((i : Int) + 1) o := by
      intro m
      rw [show (run_tutorref10_Show K0 (m + 1)).1 = s_tutorref10_Show_3 (run_tutorref10_Show K0 m).1 (run_tutorref10_Show K0 m).2.1 (run_tutorref10_Show K0 m).2.2 K0 from rfl]
      unfold s_tutorref10_Show_3
      have hl1 : ∀ c : Nat, (o.length + ([c] : List Nat).length) * 1 ≤ lim := by
        intro c
        unfold lim
        simp at hl ⊢
        omega
      rw [br_pos (by omega), br_pos (by omega), br_pos (by omega), Int.toNat_natCast, getD_of (0, ([], [])) h1, wr ((i : Int) + 1) (by omega) (by omega)]
      by_cases c1 : l[i].1 = 1
      · rw [br_eq c1, if_pos c1]
        exact br_pos (hl1 _)
      · rw [br_eq' c1, if_neg c1]
        by_cases c2 : l[i].1 = 2
        · rw [br_eq c2, if_pos c2]
          exact br_pos (hl1 _)
        · rw [br_eq' c2, if_neg c2]
          by_cases c3 : l[i].1 = 3
          · rw [br_eq c3, if_pos c3, br_pos (hl1 _)]
            exact br_pos (by omega)
          · rw [br_eq' c3, if_neg c3]
    by_cases c1 : l[i].1 = 1
    · have ea : showA l[i] = 111 :: flatN l[i].2.1 ++ [10] := if_pos c1
      rw [ea] at ih2 hl ⊢
      refine .step (fun m => (key m).trans (if_pos c1)) (rshowN_run hm.1 (by omega) K0 l[i].2.1.length 0 (o ++ [111]) (by omega) ?_ ?_)
      · simp at hl ⊢
        omega
      · simpa using ih2
    · by_cases c2 : l[i].1 = 2
      · have ea : showA l[i] = [121, 10] := (if_neg c1).trans (if_pos c2)
        rw [ea] at ih2 hl ⊢
        refine .step (fun m => (key m).trans ((if_neg c1).trans (if_pos c2))) (.step (fun m => ?_) (by simpa using ih2))
        rw [show (run_tutorref10_Show K0 (m + 1)).2.2 = s_tutorref10_Show_16b (run_tutorref10_Show K0 m).1 (run_tutorref10_Show K0 m).2.1 (run_tutorref10_Show K0 m).2.2 K0 from rfl]
        unfold s_tutorref10_Show_16b
        have hl1 : ((o ++ [121]).length + ([10] : List Nat).length) * 1 ≤ lim := by
          unfold lim
          simp at hl ⊢
          omega
        rw [br_neg (by simp), br_pos hl1, wr ((i : Int) + 1) (by omega) (by omega)]
        simp
      · by_cases c3 : l[i].1 = 3
        · have ea : showA l[i] = 110 :: flatN l[i].2.2 ++ [10] := (if_neg c1).trans ((if_neg c2).trans (if_pos c3))
          rw [ea] at ih2 hl ⊢
          refine .step (fun m => (key m).trans ((if_neg c1).trans ((if_neg c2).trans (if_pos c3)))) (rshowN_run hm.2 (by omega) K0 l[i].2.2.length 0 (o ++ [110]) (by omega) ?_ ?_)
          · simp at hl ⊢
            omega
          · simpa using ih2
        · have ea : showA l[i] = [] := (if_neg c1).trans ((if_neg c2).trans (if_neg c3))
          rw [ea] at ih2 hl ⊢
          refine .step (fun m => (key m).trans ((if_neg c1).trans ((if_neg c2).trans (if_neg c3)))) (by simpa using ih2)

theorem ok_tutorref10_Show {R : Type} (l : List (Int × (List Int × List Int))) (K0 : (List Int) → Option R) {r : R} (h : l_tutorref10_Show l K0 = some r) : ∃ fuel, e_tutorref10_Show (run_tutorref10_Show K0 fuel).1 (run_tutorref10_Show K0 fuel).2.1 (run_tutorref10_Show K0 fuel).2.2 K0 l = some r := by
  unfold l_tutorref10_Show at h
  rcases bi_some h with ⟨hs, h⟩ | ⟨_, h⟩
  · obtain ⟨h1, h2, h3⟩ := of_decide_eq_true hs
    rw [← h]
    obtain ⟨n, hn⟩ := (rshow_run h1 h2 K0 l.length 0 [] (by omega) (by simpa using h3)).get
    refine ⟨n, ?_⟩
    unfold e_tutorref10_Show
    simpa using hn
  · cases h

/-- tutor/tutorref08.Same -/
def l_tutorref08_Same {R : Type} (a : List Int) (b : List Int) (K0 : Bool → Option R) : Option R :=
  K0 ((ofBts a).toList == (ofBts b).toList)

/-- tutor/tutorlaw10.TeachShows -/
def l_tutorlaw10_TeachShows {R : Type} (l : List (Int × (List Int × List Int))) (K0 : Bool → Option R) : Option R :=
  l_tutorref10_Huge l 20000
   (fun r1 =>
    bi r1
     (l_tutorlaw10_live
      (fun r2 =>
       K0 r2))
     (l_teach_Show l
      (fun r3 =>
       l_tutorref10_Show l
        (fun r4 =>
         l_tutorref08_Same r3 r4
          (fun r5 =>
           bi r5
            (l_tutorlaw10_live
             (fun r6 =>
              K0 r6))
            (K0 false))))))

theorem flatN_len : ∀ (n : List Int), (∀ x ∈ n, inI x) → (flatN n).length ≤ 22 * n.length
  | [], _ => by simp [flatN]
  | x :: n, h => by
    have h1 := itoaI_len (h x (by simp))
    have h2 := flatN_len n fun y hy => h y (by simp [hy])
    rw [flatN_cons]
    simp
    omega

theorem hugeR_len {most : Int} : ∀ (l : List (Int × (List Int × List Int))) (n : Int), hugeR most n l = false → n ≤ most → rowsOk l → n + ((l.map fun a => a.2.1.length + a.2.2.length).sum : Nat) ≤ most ∧ (showS l).length ≤ 2 * l.length + 22 * (l.map fun a => a.2.1.length + a.2.2.length).sum
  | [], n, _, h, _ => by simp [showS]; exact h
  | x :: l, n, h, hn, hr => by
    simp only [hugeR] at h
    split at h
    · cases h
    · split at h
      · cases h
      · have hx := hr x (by simp)
        obtain ⟨h1, h2⟩ := hugeR_len l _ h (by omega) (fun a ha => hr a (by simp [ha]))
        have f1 := flatN_len x.2.1 hx.1.2
        have f2 := flatN_len x.2.2 hx.2.2
        have f3 : (showA x).length ≤ 2 + 22 * (x.2.1.length + x.2.2.length) := by
          unfold showA
          split
          · simp
            omega
          · split
            · simp
            · split
              · simp
                omega
              · simp
        have e : showS (x :: l) = showA x ++ showS l := rfl
        rw [e, List.length_append, List.map_cons, List.sum_cons, List.length_cons]
        omega

theorem huge_ok {l : List (Int × (List Int × List Int))} {most : Int} (h : hugeS l most = false) (hm : 0 ≤ most ∧ most ≤ 1000000) (hr : ∀ a ∈ l, okW a.2.1 ∧ okW a.2.2) : showOk l ∧ (l.length : Int) ≤ most := by
  unfold hugeS at h
  split at h
  · cases h
  · have hr' : rowsOk l := fun a ha => ⟨(hr a ha).1.okL (by have := (hr a ha).1.1; unfold short; omega), (hr a ha).2.okL (by have := (hr a ha).2.1; unfold short; omega)⟩
    obtain ⟨h1, h2⟩ := hugeR_len l 0 h (by omega) hr'
    exact ⟨⟨by unfold short; omega, hr', by omega⟩, by omega⟩

theorem sameB_eq {R : Type} (a : List Int) (K0 : Bool → Option R) : l_tutorref08_Same a a K0 = K0 true := by
  unfold l_tutorref08_Same
  rw [beq_self_eq_true]

theorem law_tutorlaw10_TeachShows {R : Type} (l : List (Int × (List Int × List Int))) (K0 : Bool → Option R) (h0 : l.length ≤ 140737488351232 ∧ ∀ a ∈ l, inI a.1 ∧ okW a.2.1 ∧ okW a.2.2) : l_tutorlaw10_TeachShows l K0 = K0 true := by
  unfold l_tutorlaw10_TeachShows
  rw [huge_eq (by omega)]
  try dsimp only
  cases hh : hugeS l 20000 with
  | true => rw [br_tt, live10]
  | false =>
    obtain ⟨ho, _⟩ := huge_ok hh (by omega) fun a ha => (h0.2 a ha).2
    unfold l_teach_Show l_tutorref10_Show
    rw [br_ff, br_pos ho]
    try dsimp only
    rw [br_pos ho]
    try dsimp only
    rw [sameB_eq, br_tt, live10]

end
end Go.Ev
