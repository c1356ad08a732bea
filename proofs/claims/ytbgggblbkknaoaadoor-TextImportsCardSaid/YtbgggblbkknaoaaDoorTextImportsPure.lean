/- Functions of the program, as trees of tests over numbers and lists; no program in sight. -/
import Derived.Test.YtbgggblbkknaoaaDoorEvMach
import Derived.Test.YtbgggblbkknaoaaDoorEvWord
import Derived.Test.YtbgggblbkknaoaaDoorEvNum
import Derived.Test.YtbgggblbkknaoaaDoorEvTeach
import Derived.Test.YtbgggblbkknaoaaDoorEvText
import Derived.Test.YtbgggblbkknaoaaDoorEvImp
import Derived.Test.YtbgggblbkknaoaaDoorEvBack
import Derived.Test.YtbgggblbkknaoaaDoorEvThere
import Derived.Test.YtbgggblbkknaoaaDoorEvDig
import Derived.Test.YtbgggblbkknaoaaDoorEvTake
namespace Go.Ev
noncomputable section
set_option linter.unusedVariables false
set_option linter.unusedSimpArgs false
set_option maxRecDepth 100000
set_option maxHeartbeats 4000000

abbrev LT_machine_says := {R : Type} → Int → Int → Int → Int → (List Int) → (List Int) → (Int → Option R) → Option R
/-- tutor/machine.says -/
def l_machine_says {R : Type} (m m_1 m_2 m_3 : Int) (m_4 m_5 : List Int) (K0 : Int → Option R) : Option R :=
  bi (m == 1)
   (K0 m_3)
   (K0 (IntKind.i64.wrap (m_3 * m_1)))

abbrev LT_machine_head := {R : Type} → Int → Int → Int → Int → (List Int) → (List Int) → (Int → Option R) → Option R
/-- tutor/machine.head -/
def l_machine_head {R : Type} (m m_1 m_2 m_3 : Int) (m_4 m_5 : List Int) (K0 : Int → Option R) : Option R :=
  bi (m != 1)
   (bi (m != 2)
    (K0 30)
    (bi (decide (m_1 < 1))
     (K0 1)
     (bi (decide (m_1 > 64))
      (K0 1)
      (bi (m == 1)
       (bi (m_2 != 2)
        (K0 33)
        (bi (decide (m_2 < 1))
         (K0 33)
         (bi (decide (m_2 > 64))
          (K0 33)
          (bi (decide (m_3 < 1))
           (K0 3)
           (bi (decide (m_3 > 1024))
            (K0 3)
            (bi ((m_4.length : Int) != (IntKind.i64.wrap (m_3 * m_1)))
             (K0 31)
             (l_machine_says m m_1 m_2 m_3 m_4 m_5
              (fun r1 =>
               bi ((m_5.length : Int) != r1)
                (K0 31)
                (K0 0)))))))))
       (bi (decide (m_2 < 1))
        (K0 33)
        (bi (decide (m_2 > 64))
         (K0 33)
         (bi (decide (m_3 < 1))
          (K0 3)
          (bi (decide (m_3 > 1024))
           (K0 3)
           (bi ((m_4.length : Int) != (IntKind.i64.wrap (m_3 * m_1)))
            (K0 31)
            (l_machine_says m m_1 m_2 m_3 m_4 m_5
             (fun r2 =>
              bi ((m_5.length : Int) != r2)
               (K0 31)
               (K0 0))))))))))))
   (bi (decide (m_1 < 1))
    (K0 1)
    (bi (decide (m_1 > 64))
     (K0 1)
     (bi (m == 1)
      (bi (m_2 != 2)
       (K0 33)
       (bi (decide (m_2 < 1))
        (K0 33)
        (bi (decide (m_2 > 64))
         (K0 33)
         (bi (decide (m_3 < 1))
          (K0 3)
          (bi (decide (m_3 > 1024))
           (K0 3)
           (bi ((m_4.length : Int) != (IntKind.i64.wrap (m_3 * m_1)))
            (K0 31)
            (l_machine_says m m_1 m_2 m_3 m_4 m_5
             (fun r3 =>
              bi ((m_5.length : Int) != r3)
               (K0 31)
               (K0 0)))))))))
      (bi (decide (m_2 < 1))
       (K0 33)
       (bi (decide (m_2 > 64))
        (K0 33)
        (bi (decide (m_3 < 1))
         (K0 3)
         (bi (decide (m_3 > 1024))
          (K0 3)
          (bi ((m_4.length : Int) != (IntKind.i64.wrap (m_3 * m_1)))
           (K0 31)
           (l_machine_says m m_1 m_2 m_3 m_4 m_5
            (fun r4 =>
             bi ((m_5.length : Int) != r4)
              (K0 31)
              (K0 0)))))))))))

theorem head_eq {R : Type} (k K O N : Int) (nx ou : List Int) (K0 : Int → Option R) : l_machine_head k K O N nx ou K0 = K0 (headS k K O N nx ou) := by
  unfold l_machine_head l_machine_says headS
  simp only [br_if, bne_iff_ne, beq_iff_eq, decide_eq_true_eq, ne_eq]
  by_cases hb : (1 ≤ N ∧ N ≤ 1024) ∧ 1 ≤ K ∧ K ≤ 64
  · have := mulK hb
    rw [wr (N * K) (by omega) (by omega)]
    repeat' (refine ite_l (fun _ => ?_) (fun _ => ?_))
    all_goals
      refine congrArg K0 ?_
      repeat' (refine ite_r (fun _ => ?_) (fun _ => ?_))
      all_goals omega
  · repeat' (refine ite_l (fun _ => ?_) (fun _ => ?_))
    all_goals
      refine congrArg K0 ?_
      repeat' (refine ite_r (fun _ => ?_) (fun _ => ?_))
      all_goals omega

abbrev LT_machine_beyond := {R : Type} → (List Int) → Int → (Int → Option R) → Option R
abbrev GT_machine_beyond_2 (R : Type) := (List Int) → Int → Int → Int → Option R
/-- tutor/machine.beyond -/
def s_machine_beyond_2 {R : Type} (g46_2 : GT_machine_beyond_2 R) (K0 : Int → Option R) (l : List Int) (n x7 x8 : Int) : Option R :=
  bi (decide (x8 < x7))
   (bi (decide (0 ≤ x8 ∧ x8 < ((l.length : Nat) : Int)))
    (bi (decide ((IntKind.u64.wrap (l.getD x8.toNat 0)) ≥ (IntKind.u64.wrap n)))
     (K0 x8)
     (g46_2 l n x7 (IntKind.i64.wrap (x8 + 1))))
    none)
   (K0 (-1))

/-- tutor/machine.beyond -/
def e_machine_beyond {R : Type} (g46_2 : GT_machine_beyond_2 R) (K0 : Int → Option R) (l : List Int) (n : Int) : Option R :=
  g46_2 l n (l.length : Int) 0

def run_machine_beyond {R : Type} (K0 : Int → Option R) : Nat → (List Int) → Int → Int → Int → Option R
  | 0 => fun _ _ _ _ => none
  | n + 1 => s_machine_beyond_2 (run_machine_beyond K0 n) K0

def l_machine_beyond {R : Type} (l : List Int) (n : Int) (K0 : Int → Option R) : Option R := bi (decide (short l)) (K0 (beyondS n l)) none

theorem ok_machine_beyond {R : Type} (l : List Int) (n : Int) (K0 : Int → Option R) {r : R} (h : l_machine_beyond l n K0 = some r) : ∃ fuel, e_machine_beyond (run_machine_beyond K0 fuel) K0 l n = some r := by
  unfold l_machine_beyond at h
  rcases bi_some h with ⟨hs, h⟩ | ⟨_, h⟩
  · have hs : l.length < 4611686018427387904 := of_decide_eq_true hs
    refine ⟨l.length + 1, ?_⟩
    rw [← h]
    have key := scan_all (F := fun m i => run_machine_beyond K0 m l n (l.length : Int) (i : Int)) (bad n) (l := l) (A := fun i => K0 i) (B := K0 (-1))
      (fun m => by
        show s_machine_beyond_2 _ _ _ _ _ _ = _
        unfold s_machine_beyond_2
        rw [br_neg (by omega)])
      (fun m i hi => by
        show s_machine_beyond_2 _ _ _ _ _ _ = _
        unfold s_machine_beyond_2
        rw [br_pos (by omega), br_pos (by omega), br_if, Int.toNat_natCast, getD_of 0 hi, wr _ (by omega) (by omega)]
        rfl)
    unfold e_machine_beyond beyondS
    refine key.trans ?_
    cases findP (bad n) l <;> rfl
  · cases h

abbrev LT_machine_Check := {R : Type} → Int → Int → Int → Int → (List Int) → (List Int) → (Int → Int → Option R) → Option R
/-- tutor/machine.Check -/
def l_machine_Check {R : Type} (m m_1 m_2 m_3 : Int) (m_4 m_5 : List Int) (K0 : Int → Int → Option R) : Option R :=
  l_machine_head m m_1 m_2 m_3 m_4 m_5
   (fun r1 =>
    bi (r1 != 0)
     (K0 0 r1)
     (l_machine_beyond m_4 m_3
      (fun r2 =>
       bi (decide (r2 ≥ 0))
        (K0 r2 32)
        (l_machine_beyond m_5 m_2
         (fun r3 =>
          bi (decide (r3 ≥ 0))
           (K0 r3 33)
           (K0 0 0))))))

theorem check_eq {R : Type} (k K O N : Int) (nx ou : List Int) (h1 : short nx) (h2 : short ou) (K0 : Int → Int → Option R) :
    l_machine_Check k K O N nx ou K0 = K0 (checkS k K O N nx ou).1 (checkS k K O N nx ou).2 := by
  unfold l_machine_Check checkS l_machine_beyond beyondS
  rw [head_eq]
  by_cases h : headS k K O N nx ou = 0
  · rw [br_ne' h, if_neg (by simpa using h), br_pos h1]
    cases hf : findP (bad N) nx with
    | some i => simp only [br_pos (show ((i : Nat) : Int) ≥ 0 by omega)]
    | none =>
      simp only [br_neg (show ¬ ((-1 : Int) ≥ 0) by omega), br_pos h2]
      cases hg : findP (bad O) ou with
      | some i => simp only [br_pos (show ((i : Nat) : Int) ≥ 0 by omega)]
      | none => simp only [br_neg (show ¬ ((-1 : Int) ≥ 0) by omega)]
  · rw [br_ne h, if_pos (by simpa using h)]

abbrev LT_text_Export := {R : Type} → Int → Int → Int → Int → (List Int) → (List Int) → (Int → (List Int) → Option R) → Option R
/-- text.Export -/
def l_text_Export {R : Type} (m m_1 m_2 m_3 : Int) (m_4 m_5 : List Int) (K0 : Int → List Int → Option R) : Option R := l_Export m m_1 m_2 m_3 m_4 m_5 (fun xs e => K0 e xs)

theorem exp_eq {R : Type} {m m_1 m_2 m_3 : Int} {m_4 m_5 : List Int} (h1 : okL m_4) (h2 : okL m_5) (K0 : Int → List Int → Option R) :
    l_text_Export m m_1 m_2 m_3 m_4 m_5 K0 = K0 (exportS m m_1 m_2 m_3 m_4 m_5).2 (exportS m m_1 m_2 m_3 m_4 m_5).1 := export_eq h1 h2 _

abbrev LT_text_reader_want_none := {R : Type} → ByteArray → (List Int) → Int → ((List Int) → Int → Int → Int → Option R) → ((List Int) → Int → Option R) → Option R
abbrev GT_text_reader_want_none_1 (R : Type) := ByteArray → Int → (List Int) → Int → Option R
/-- (*tutor/text.reader).want -/
def s_text_reader_want_none_1 {R : Type} (g50_1 : GT_text_reader_want_none_1 R) (K0 : (List Int) → Int → Int → Int → Option R) (K1 : (List Int) → Int → Option R) (s : ByteArray) (i : Int) (o0 : List Int) (o0_1 : Int) : Option R :=
  bi (decide (i < (s.size : Int)))
   (bi (o0_1 == (o0.length : Int))
    (K0 o0 o0_1 6 o0_1)
    (bi (decide (0 ≤ o0_1 ∧ o0_1 < ((o0.length : Nat) : Int)))
     (bi (decide (0 ≤ i ∧ i < ((s.size : Nat) : Int)))
      (bi ((o0.getD o0_1.toNat 0) != ((s.data.toList.getD i.toNat 0).toNat : Int))
       (K0 o0 o0_1 6 o0_1)
       (g50_1 s (IntKind.i64.wrap (i + 1)) o0 (IntKind.i64.wrap (o0_1 + 1))))
      none)
     none))
   (K1 o0 o0_1)

/-- (*tutor/text.reader).want -/
def e_text_reader_want_none {R : Type} (g50_1 : GT_text_reader_want_none_1 R) (K0 : (List Int) → Int → Int → Int → Option R) (K1 : (List Int) → Int → Option R) (s : ByteArray) (o0 : List Int) (o0_1 : Int) : Option R :=
  g50_1 s 0 o0 o0_1

def run_text_reader_want_none {R : Type} (K0 : (List Int) → Int → Int → Int → Option R) (K1 : (List Int) → Int → Option R) : Nat → ByteArray → Int → (List Int) → Int → Option R
  | 0 => fun _ _ _ _ => none
  | n + 1 => s_text_reader_want_none_1 (run_text_reader_want_none K0 K1 n) K0 K1

def l_text_reader_want_none {R : Type} (s : ByteArray) (o0 : List Int) (o0_1 : Int) (K0 : (List Int) → Int → Int → Int → Option R) (K1 : (List Int) → Int → Option R) : Option R := evl fun fuel => e_text_reader_want_none (run_text_reader_want_none K0 K1 fuel) K0 K1 s o0 o0_1

theorem ok_text_reader_want_none {R : Type} (s : ByteArray) (o0 : List Int) (o0_1 : Int) (K0 : (List Int) → Int → Int → Int → Option R) (K1 : (List Int) → Int → Option R) {r : R} (h : l_text_reader_want_none s o0 o0_1 K0 K1 = some r) : ∃ fuel, e_text_reader_want_none (run_text_reader_want_none K0 K1 fuel) K0 K1 s o0 o0_1 = some r := evl_ok h

theorem want_run {R : Type} {b : List Int} (hs : short b) (s : ByteArray) (hz : s.size ≤ 1000) (K0 : List Int → Int → Int → Int → Option R) (K1 : List Int → Int → Option R) :
    ∀ (d i a : Nat), i + d = s.size → a ≤ b.length →
      Reach (fun m => run_text_reader_want_none K0 K1 m s (i : Int) b (a : Int)) (match wantS ((bts s).drop i) b a with | .inl e => K0 b e.2 e.1 e.2 | .inr c => K1 b (c : Int)) := by
  have hl : (bts s).length = s.size := by simp [bts]
  unfold short at hs
  intro d
  induction d with
  | zero =>
    intro i a hi ha
    refine .now fun m => ?_
    rw [show run_text_reader_want_none K0 K1 (m + 1) = s_text_reader_want_none_1 (run_text_reader_want_none K0 K1 m) K0 K1 from rfl]
    unfold s_text_reader_want_none_1
    rw [br_neg (by omega), List.drop_of_length_le (by omega)]
    rfl
  | succ d ih =>
    intro i a hi ha
    have hlt : i < (bts s).length := by omega
    have hget : (bts s)[i] = ((s.data.toList.getD i 0).toNat : Int) := by
      simp [bts, List.getD_eq_getElem?_getD, List.getElem?_eq_getElem (show i < s.data.toList.length by simpa [bts] using hlt)]
    rw [List.drop_eq_getElem_cons hlt, hget]
    unfold wantS
    by_cases h1 : a = b.length
    · refine .now fun m => ?_
      rw [show run_text_reader_want_none K0 K1 (m + 1) = s_text_reader_want_none_1 (run_text_reader_want_none K0 K1 m) K0 K1 from rfl]
      unfold s_text_reader_want_none_1
      rw [br_pos (by omega), br_eq (by omega), if_neg (by rw [List.getElem?_eq_none (by omega)]; simp)]
    · have hab : a < b.length := by omega
      by_cases h2 : b[a] = ((s.data.toList.getD i 0).toNat : Int)
      · rw [if_pos (by rw [List.getElem?_eq_getElem hab, h2])]
        refine .step (fun m => ?_) (ih (i + 1) (a + 1) (by omega) (by omega))
        rw [show run_text_reader_want_none K0 K1 (m + 1) = s_text_reader_want_none_1 (run_text_reader_want_none K0 K1 m) K0 K1 from rfl]
        unfold s_text_reader_want_none_1
        rw [br_pos (by omega), br_eq' (by omega), br_pos (by omega), br_pos (by omega), Int.toNat_natCast, Int.toNat_natCast, getD_of 0 hab, br_ne' h2, wr ((i : Int) + 1) (by omega) (by omega), wr ((a : Int) + 1) (by omega) (by omega)]
        rfl
      · rw [if_neg (by rw [List.getElem?_eq_getElem hab]; simpa using h2)]
        refine .now fun m => ?_
        rw [show run_text_reader_want_none K0 K1 (m + 1) = s_text_reader_want_none_1 (run_text_reader_want_none K0 K1 m) K0 K1 from rfl]
        unfold s_text_reader_want_none_1
        rw [br_pos (by omega), br_eq' (by omega), br_pos (by omega), br_pos (by omega), Int.toNat_natCast, Int.toNat_natCast, getD_of 0 hab, br_ne h2]

theorem want_ok {R : Type} {b : List Int} (hs : short b) {s : ByteArray} (hz : s.size ≤ 1000) {a c : Nat} (ha : a ≤ b.length) (h : wantS (bts s) b a = .inr c) (K0 : List Int → Int → Int → Int → Option R) (K1 : List Int → Int → Option R) :
    l_text_reader_want_none s b (a : Int) K0 K1 = K1 b (c : Int) := by
  refine evl_eq (Reach.of_eq (want_run hs s hz K0 K1 s.size 0 a (by omega) ha) ?_)
  rw [List.drop_zero, h]

theorem want_bad {R : Type} {b : List Int} (hs : short b) {s : ByteArray} (hz : s.size ≤ 1000) {a : Nat} {e : Int × Int} (ha : a ≤ b.length) (h : wantS (bts s) b a = .inl e) (K0 : List Int → Int → Int → Int → Option R) (K1 : List Int → Int → Option R) :
    l_text_reader_want_none s b (a : Int) K0 K1 = K0 b e.2 e.1 e.2 := by
  refine evl_eq (Reach.of_eq (want_run hs s hz K0 K1 s.size 0 a (by omega) ha) ?_)
  rw [List.drop_zero, h]

abbrev LT_text_reader_number_fault := {R : Type} → Int → Int → Int → (List Int) → Int → Int → Int → (Int → (List Int) → Int → Int → Int → Option R) → Option R
/-- (*tutor/text.reader).number -/
def l_text_reader_number_fault {R : Type} (low high kind : Int) (o0 : List Int) (o0_1 o1 o1_1 : Int) (K0 : Int → (List Int) → Int → Int → Int → Option R) : Option R :=
  K0 0 o0 o0_1 o1 o1_1

theorem numf_eq {R : Type} (lo hi kd : Int) (b : List Int) (a k p : Int) (K0 : Int → List Int → Int → Int → Int → Option R) : l_text_reader_number_fault lo hi kd b a k p K0 = K0 0 b a k p := rfl

abbrev LT_text_reader_want_fault := {R : Type} → ByteArray → (List Int) → Int → Int → Int → ((List Int) → Int → Int → Int → Option R) → Option R
abbrev GT_text_reader_want_fault_1 (R : Type) := ByteArray → Int → (List Int) → Int → Int → Int → Option R
/-- (*tutor/text.reader).want -/
def s_text_reader_want_fault_1 {R : Type} (g50b_1 : GT_text_reader_want_fault_1 R) (K0 : (List Int) → Int → Int → Int → Option R) (s : ByteArray) (i : Int) (o0 : List Int) (o0_1 o1 o1_1 : Int) : Option R :=
  bi (decide (i < (s.size : Int)))
   (K0 o0 o0_1 o1 o1_1)
   (K0 o0 o0_1 o1 o1_1)

/-- (*tutor/text.reader).want -/
def e_text_reader_want_fault {R : Type} (g50b_1 : GT_text_reader_want_fault_1 R) (K0 : (List Int) → Int → Int → Int → Option R) (s : ByteArray) (o0 : List Int) (o0_1 o1 o1_1 : Int) : Option R :=
  g50b_1 s 0 o0 o0_1 o1 o1_1

def run_text_reader_want_fault {R : Type} (K0 : (List Int) → Int → Int → Int → Option R) : Nat → ByteArray → Int → (List Int) → Int → Int → Int → Option R
  | 0 => fun _ _ _ _ _ _ => none
  | n + 1 => s_text_reader_want_fault_1 (run_text_reader_want_fault K0 n) K0

def l_text_reader_want_fault {R : Type} (s : ByteArray) (o0 : List Int) (o0_1 o1 o1_1 : Int) (K0 : (List Int) → Int → Int → Int → Option R) : Option R := evl fun fuel => e_text_reader_want_fault (run_text_reader_want_fault K0 fuel) K0 s o0 o0_1 o1 o1_1

theorem ok_text_reader_want_fault {R : Type} (s : ByteArray) (o0 : List Int) (o0_1 o1 o1_1 : Int) (K0 : (List Int) → Int → Int → Int → Option R) {r : R} (h : l_text_reader_want_fault s o0 o0_1 o1 o1_1 K0 = some r) : ∃ fuel, e_text_reader_want_fault (run_text_reader_want_fault K0 fuel) K0 s o0 o0_1 o1 o1_1 = some r := evl_ok h

theorem wantf_eq {R : Type} (s : ByteArray) (b : List Int) (a k p : Int) (K0 : List Int → Int → Int → Int → Option R) : l_text_reader_want_fault s b a k p K0 = K0 b a k p := by
  refine evl_eq (.now fun m => ?_)
  unfold e_text_reader_want_fault
  rw [show run_text_reader_want_fault K0 (m + 1) = s_text_reader_want_fault_1 (run_text_reader_want_fault K0 m) K0 from rfl]
  unfold s_text_reader_want_fault_1
  exact br_same _

abbrev LT_text_Number := {R : Type} → (List Int) → Int → (Int → Int → Int → Option R) → Option R
abbrev GT_text_Number_4 (R : Type) := (List Int) → Int → Int → Int → Option R
/-- tutor/text.Number -/
def s_text_Number_4 {R : Type} (g21_4 : GT_text_Number_4 R) (K0 : Int → Int → Int → Option R) (b : List Int) (vat n i : Int) : Option R :=
  bi (decide (i < (b.length : Int)))
   (bi (decide (0 ≤ i ∧ i < ((b.length : Nat) : Int)))
    (bi (decide ((b.getD i.toNat 0) ≥ 48))
     (bi (decide (0 ≤ i ∧ i < ((b.length : Nat) : Int)))
      (bi (decide ((b.getD i.toNat 0) ≤ 57))
       (bi ((IntKind.i64.wrap (i - vat)) == 4)
        (K0 0 i 6)
        (bi ((IntKind.i64.wrap (i - vat)) == 1)
         (bi (decide (0 ≤ vat ∧ vat < ((b.length : Nat) : Int)))
          (bi ((b.getD vat.toNat 0) == 48)
           (K0 0 i 6)
           (bi (decide (0 ≤ i ∧ i < ((b.length : Nat) : Int)))
            (g21_4 b vat (IntKind.i64.wrap ((IntKind.i64.wrap (10 * n)) + (IntKind.i64.wrap (IntKind.u8.wrap ((b.getD i.toNat 0) - 48))))) (IntKind.i64.wrap (i + 1)))
            none))
          none)
         (bi (decide (0 ≤ i ∧ i < ((b.length : Nat) : Int)))
          (g21_4 b vat (IntKind.i64.wrap ((IntKind.i64.wrap (10 * n)) + (IntKind.i64.wrap (IntKind.u8.wrap ((b.getD i.toNat 0) - 48))))) (IntKind.i64.wrap (i + 1)))
          none)))
       (bi (i == vat)
        (K0 0 vat 6)
        (K0 n i 0)))
      none)
     (bi (i == vat)
      (K0 0 vat 6)
      (K0 n i 0)))
    none)
   (bi (i == vat)
    (K0 0 vat 6)
    (K0 n i 0))

/-- tutor/text.Number -/
def e_text_Number {R : Type} (g21_4 : GT_text_Number_4 R) (K0 : Int → Int → Int → Option R) (b : List Int) (vat : Int) : Option R :=
  bi (decide (vat < 0))
   (K0 0 0 1)
   (bi (decide (vat > (b.length : Int)))
    (K0 0 0 1)
    (g21_4 b vat 0 vat))

def run_text_Number {R : Type} (K0 : Int → Int → Int → Option R) : Nat → (List Int) → Int → Int → Int → Option R
  | 0 => fun _ _ _ _ => none
  | n + 1 => s_text_Number_4 (run_text_Number K0 n) K0

def l_text_Number {R : Type} (b : List Int) (vat : Int) (K0 : Int → Int → Int → Option R) : Option R := bi (decide (short b)) (K0 (numS b vat).1 (numS b vat).2.1 (numS b vat).2.2) none

theorem number_run {R : Type} {b : List Int} (hs : short b) {a : Nat} (ha : a ≤ b.length) (K0 : Int → Int → Int → Option R) :
    ∀ (d i k : Nat) (z : Bool) (n : Int), i + d = b.length → i = a + k → k ≤ 4 → 0 ≤ n → n < 10 ^ k → (0 < k → z = decide (b.getD a 0 = 48)) →
      Reach (fun m => run_text_Number K0 m b (a : Int) n (i : Int)) (K0 (numR (b.drop i) k z n).1 ((a : Int) + (numR (b.drop i) k z n).2.1) (numR (b.drop i) k z n).2.2) := by
  unfold short at hs
  intro d
  induction d with
  | zero =>
    intro i k z n hi hk hk4 hn0 hn1 hz
    refine .now fun m => ?_
    rw [show run_text_Number K0 (m + 1) = s_text_Number_4 (run_text_Number K0 m) K0 from rfl]
    unfold s_text_Number_4
    rw [br_neg (by omega), List.drop_of_length_le (by omega)]
    simp only [numR]
    by_cases c : k = 0
    · rw [if_pos c, br_eq (by omega)]
      simp
    · rw [if_neg c, br_eq' (by omega)]
      dsimp only
      congr 1
      omega
  | succ d ih =>
    intro i k z n hi hk hk4 hn0 hn1 hz
    have h1 : i < b.length := by omega
    have n4 : n < 10000 := by
      have : (10 : Int) ^ k ≤ 10 ^ 4 := by
        have : (10 : Nat) ^ k ≤ 10 ^ 4 := Nat.pow_le_pow_right (by decide) hk4
        exact_mod_cast this
      omega
    rw [List.drop_eq_getElem_cons h1]
    simp only [numR]
    have stop : ∀ m : Nat, (bi ((i : Int) == (a : Int)) (K0 0 (a : Int) 6) (K0 n (i : Int) 0)) = K0 (if k = 0 then ((0 : Int), 0, (6 : Int)) else (n, k, 0)).1 ((a : Int) + (if k = 0 then ((0 : Int), 0, (6 : Int)) else (n, k, 0)).2.1) (if k = 0 then ((0 : Int), 0, (6 : Int)) else (n, k, 0)).2.2 := by
      intro _
      by_cases c : k = 0
      · rw [if_pos c, br_eq (by omega)]
        simp
      · rw [if_neg c, br_eq' (by omega)]
        dsimp only
        congr 1
        omega
    by_cases c1 : isDig b[i]
    · rw [if_pos c1]
      have c1' := c1
      unfold isDig at c1'
      by_cases c2 : k = 4 ∨ (k = 1 ∧ z = true)
      · rw [if_pos c2]
        refine .now fun m => ?_
        rw [show run_text_Number K0 (m + 1) = s_text_Number_4 (run_text_Number K0 m) K0 from rfl]
        unfold s_text_Number_4
        rw [br_pos (by omega), br_pos (by omega), Int.toNat_natCast, getD_of 0 h1, br_pos (by omega), br_pos (by omega), br_pos (by omega), wr ((i : Int) - a) (by omega) (by omega)]
        rcases c2 with c2 | ⟨c2, c3⟩
        · rw [br_eq (by omega)]
          dsimp only
          congr 1
          omega
        · have hz := hz (by omega)
          rw [c3] at hz
          have hz := of_decide_eq_true hz.symm
          rw [br_eq' (by omega), br_eq (by omega), br_pos (by omega), Int.toNat_natCast, hz, br_eq rfl]
          dsimp only
          congr 1
          omega
      · rw [if_neg c2]
        have hp : (10 : Int) ^ (k + 1) = 10 ^ k * 10 := Int.pow_succ 10 k
        refine .step (fun m => ?_) (ih (i + 1) (k + 1) _ (10 * n + (b[i] - 48)) (by omega) (by omega) (by omega) (by omega) (by omega) ?_)
        · rw [show run_text_Number K0 (m + 1) = s_text_Number_4 (run_text_Number K0 m) K0 from rfl]
          unfold s_text_Number_4
          rw [br_pos (by omega), br_pos (by omega), Int.toNat_natCast, getD_of 0 h1, br_pos (by omega), br_pos (by omega), br_pos (by omega), wr ((i : Int) - a) (by omega) (by omega), br_eq' (by omega)]
          have e1 : IntKind.i64.wrap (IntKind.i64.wrap (10 * n) + IntKind.i64.wrap (IntKind.u8.wrap (b[i] - 48))) = 10 * n + (b[i] - 48) := by
            rw [wr (10 * n) (by omega) (by omega), wr8 (b[i] - 48) (by omega) (by omega), wr (b[i] - 48) (by omega) (by omega), wr _ (by omega) (by omega)]
          rw [e1, wr ((i : Int) + 1) (by omega) (by omega)]
          by_cases c3 : k = 1
          · have hz := hz (by omega)
            have hzf : ¬ b.getD a 0 = 48 := by
              intro h
              exact c2 (.inr ⟨c3, by rw [hz]; exact decide_eq_true h⟩)
            rw [br_eq (by omega), br_pos (by omega), Int.toNat_natCast, br_eq' hzf, br_pos (by omega)]
            rfl
          · rw [br_eq' (by omega), br_pos (by omega)]
            rfl
        · intro _
          by_cases c3 : k = 0
          · rw [if_pos c3]
            have e : i = a := by omega
            subst e
            rw [getD_of 0 h1]
          · rw [if_neg c3]
            exact hz (by omega)
    · rw [if_neg c1]
      refine .now fun m => ?_
      rw [show run_text_Number K0 (m + 1) = s_text_Number_4 (run_text_Number K0 m) K0 from rfl]
      unfold s_text_Number_4
      rw [br_pos (by omega), br_pos (by omega), Int.toNat_natCast, getD_of 0 h1]
      unfold isDig at c1
      by_cases c2 : b[i] ≥ 48
      · rw [br_pos c2, br_pos (by omega), br_neg (by omega)]
        exact stop m
      · rw [br_neg c2]
        exact stop m

theorem ok_text_Number {R : Type} (b : List Int) (vat : Int) (K0 : Int → Int → Int → Option R) {r : R} (h : l_text_Number b vat K0 = some r) : ∃ fuel, e_text_Number (run_text_Number K0 fuel) K0 b vat = some r := by
  unfold l_text_Number at h
  rcases bi_some h with ⟨hs, h⟩ | ⟨_, h⟩
  · have hs : short b := of_decide_eq_true hs
    rw [← h]
    unfold numS
    by_cases c : vat < 0
    · rw [if_pos (.inl c)]
      exact ⟨0, by unfold e_text_Number; rw [br_pos c]⟩
    · by_cases c2 : vat > (b.length : Int)
      · rw [if_pos (.inr c2)]
        exact ⟨0, by unfold e_text_Number; rw [br_neg c, br_pos c2]⟩
      · rw [if_neg (by omega)]
        obtain ⟨a, rfl⟩ : ∃ a : Nat, vat = a := ⟨vat.toNat, by omega⟩
        obtain ⟨n, hn⟩ := (number_run hs (a := a) (by omega) K0 (b.length - a) a 0 false 0 (by omega) (by omega) (by omega) (by omega) (by omega) (by omega)).get
        refine ⟨n, ?_⟩
        unfold e_text_Number
        rw [br_neg c, br_neg c2, hn, Int.toNat_natCast]
        rfl
  · cases h

theorem number_eq {R : Type} {b : List Int} (hs : short b) (vat : Int) (K0 : Int → Int → Int → Option R) : l_text_Number b vat K0 = K0 (numS b vat).1 (numS b vat).2.1 (numS b vat).2.2 := br_pos hs

abbrev LT_text_reader_number_none := {R : Type} → Int → Int → Int → (List Int) → Int → (Int → (List Int) → Int → Int → Int → Option R) → (Int → (List Int) → Int → Option R) → Option R
/-- (*tutor/text.reader).number -/
def l_text_reader_number_none {R : Type} (low high kind : Int) (o0 : List Int) (o0_1 : Int) (K0 : Int → (List Int) → Int → Int → Int → Option R) (K1 : Int → (List Int) → Int → Option R) : Option R :=
  l_text_Number o0 o0_1
   (fun r1 r2 r3 =>
    bi (r3 != 0)
     (K0 r1 o0 r2 r3 r2)
     (bi (decide (r1 < low))
      (K0 r1 o0 r2 kind o0_1)
      (bi (decide (r1 > high))
       (K0 r1 o0 r2 kind o0_1)
       (K1 r1 o0 r2))))

theorem numS_at {b : List Int} {a : Nat} (ha : a ≤ b.length) : numS b (a : Int) = ((numL (b.drop a)).1, ((a + (numL (b.drop a)).2.1 : Nat) : Int), (numL (b.drop a)).2.2) := by
  unfold numS
  rw [if_neg (by omega), Int.toNat_natCast]
  simp

theorem num_ok {R : Type} {b : List Int} (hs : short b) {lo hi kd : Int} {a : Nat} {q : Int × Nat} (ha : a ≤ b.length) (h : numbS lo hi kd b a = .inr q) (K0 : Int → List Int → Int → Int → Int → Option R) (K1 : Int → List Int → Int → Option R) :
    l_text_reader_number_none lo hi kd b (a : Int) K0 K1 = K1 q.1 b (q.2 : Int) := by
  unfold l_text_reader_number_none
  rw [number_eq hs, numS_at ha]
  obtain ⟨h1, h2, h3, h4⟩ := numbS_ok h
  rw [h1]
  rw [br_ne' rfl, br_neg (by simp; omega), br_neg (by simp; omega)]
  simp only
  rw [show a + (q.2 - a) = q.2 by omega]

theorem num_bad {R : Type} {b : List Int} (hs : short b) {lo hi kd : Int} {a : Nat} {e : Int × Int} (ha : a ≤ b.length) (h : numbS lo hi kd b a = .inl e) (K0 : Int → List Int → Int → Int → Int → Option R) (K1 : Int → List Int → Int → Option R) :
    l_text_reader_number_none lo hi kd b (a : Int) K0 K1 = K0 (numL (b.drop a)).1 b ((a + (numL (b.drop a)).2.1 : Nat) : Int) e.1 e.2 := by
  unfold l_text_reader_number_none
  rw [number_eq hs, numS_at ha]
  unfold numbS at h
  by_cases h1 : (numL (b.drop a)).2.2 ≠ 0
  · rw [if_pos h1] at h
    cases h
    rw [br_ne h1]
  · rw [if_neg h1] at h
    rw [br_ne' (Decidable.not_not.1 h1)]
    by_cases h2 : (numL (b.drop a)).1 < lo ∨ hi < (numL (b.drop a)).1
    · rw [if_pos h2] at h
      cases h
      by_cases h3 : (numL (b.drop a)).1 < lo
      · rw [br_pos h3]
      · rw [br_neg h3, br_pos (by simp; omega)]
    · rw [if_neg h2] at h
      cases h

abbrev LT_text_reader_read_none := {R : Type} → (List Int) → Int → (Int → Int → Int → Int → (List Int) → Int → Int → Int → (List Int) → (List Int) → Option R) → (Int → Int → Int → Int → (List Int) → Int → (List Int) → (List Int) → Option R) → Option R
abbrev GT_text_reader_read_none_15a (R : Type) := Int → (List Int) → Int → Int → Int → Int → Int → Int → Int → (List Int) → (List Int) → Int → Int → Int → Int → (List Int) → (List Int) → Option R
abbrev GT_text_reader_read_none_15b (R : Type) := Int → (List Int) → Int → Int → Int → Int → Int → (List Int) → (List Int) → Int → Int → Int → Int → (List Int) → (List Int) → Option R
abbrev GT_text_reader_read_none_19a (R : Type) := Int → (List Int) → Int → Int → Int → Int → Int → Int → Int → (List Int) → (List Int) → Int → Int → Int → Int → (List Int) → (List Int) → Option R
abbrev GT_text_reader_read_none_19b (R : Type) := Int → (List Int) → Int → Int → Int → Int → Int → (List Int) → (List Int) → Int → Int → Int → Int → (List Int) → (List Int) → Option R
abbrev GT_text_reader_read_none_20a (R : Type) := Int → Int → (List Int) → Int → Int → Int → Int → Int → Int → Int → (List Int) → (List Int) → Int → Int → Int → Int → (List Int) → (List Int) → Option R
abbrev GT_text_reader_read_none_20b (R : Type) := Int → Int → (List Int) → Int → Int → Int → Int → Int → (List Int) → (List Int) → Int → Int → Int → Int → (List Int) → (List Int) → Option R
abbrev GT_text_reader_read_none_25a (R : Type) := Int → Int → (List Int) → Int → Int → Int → Int → Int → Int → Int → (List Int) → (List Int) → Int → Int → Int → Int → (List Int) → (List Int) → Option R
abbrev GT_text_reader_read_none_25b (R : Type) := Int → Int → (List Int) → Int → Int → Int → Int → Int → (List Int) → (List Int) → Int → Int → Int → Int → (List Int) → (List Int) → Option R
abbrev GT_text_reader_read_none_21a (R : Type) := Int → Int → (List Int) → Int → Int → Int → Int → Int → Int → Int → (List Int) → (List Int) → Int → Int → Int → Int → (List Int) → (List Int) → Option R
abbrev GT_text_reader_read_none_21b (R : Type) := Int → Int → (List Int) → Int → Int → Int → Int → Int → (List Int) → (List Int) → Int → Int → Int → Int → (List Int) → (List Int) → Option R
/-- (*tutor/text.reader).read -/
def s_text_reader_read_none_15a {R : Type} (g38_15 : GT_text_reader_read_none_15a R) (g38_15b : GT_text_reader_read_none_15b R) (g38_19 : GT_text_reader_read_none_19a R) (g38_19b : GT_text_reader_read_none_19b R) (g38_20 : GT_text_reader_read_none_20a R) (g38_20b : GT_text_reader_read_none_20b R) (g38_25 : GT_text_reader_read_none_25a R) (g38_25b : GT_text_reader_read_none_25b R) (g38_21 : GT_text_reader_read_none_21a R) (g38_21b : GT_text_reader_read_none_21b R) (K0 : Int → Int → Int → Int → (List Int) → Int → Int → Int → (List Int) → (List Int) → Option R) (K1 : Int → Int → Int → Int → (List Int) → Int → (List Int) → (List Int) → Option R) (s : Int) (o0 : List Int) (o0_1 o1 o1_1 o2 o2_1 o2_2 o2_3 : Int) (o3 o4 : List Int) (o5 o5_1 o5_2 o5_3 : Int) (o6 o7 : List Int) : Option R :=
  bi (decide (s < o5_3))
   (K0 o5 o5_1 o5_2 o5_3 o0 o0_1 o1 o1_1 o6 o7)
   (K0 o5 o5_1 o5_2 o5_3 o0 o0_1 o1 o1_1 o6 o7)

/-- (*tutor/text.reader).read -/
def s_text_reader_read_none_15b {R : Type} (g38_15 : GT_text_reader_read_none_15a R) (g38_15b : GT_text_reader_read_none_15b R) (g38_19 : GT_text_reader_read_none_19a R) (g38_19b : GT_text_reader_read_none_19b R) (g38_20 : GT_text_reader_read_none_20a R) (g38_20b : GT_text_reader_read_none_20b R) (g38_25 : GT_text_reader_read_none_25a R) (g38_25b : GT_text_reader_read_none_25b R) (g38_21 : GT_text_reader_read_none_21a R) (g38_21b : GT_text_reader_read_none_21b R) (K0 : Int → Int → Int → Int → (List Int) → Int → Int → Int → (List Int) → (List Int) → Option R) (K1 : Int → Int → Int → Int → (List Int) → Int → (List Int) → (List Int) → Option R) (s : Int) (o0 : List Int) (o0_1 o1 o1_1 o1_2 o1_3 : Int) (o2 o3 : List Int) (o4 o4_1 o4_2 o4_3 : Int) (o5 o6 : List Int) : Option R :=
  bi (decide (s < o4_3))
   (bi (o4 == 1)
    (both
     (l_text_reader_number_none 0 1 33 o0 o0_1
      (fun r298 r299 r300 r301 r302 =>
       bi (decide ((o6.length + [r298].length) * 8 ≤ lim))
        (g38_19 s r299 r300 r301 r302 o1 o1_1 o1_2 o1_3 o2 o3 o4 o4_1 o4_2 o4_3 o5 (o6 ++ [r298]))
        none)
      (fun r303 r304 r305 =>
       bi (decide ((o6.length + [r303].length) * 8 ≤ lim))
        (g38_19b s r304 r305 o1 o1_1 o1_2 o1_3 o2 o3 o4 o4_1 o4_2 o4_3 o5 (o6 ++ [r303]))
        none))
     (l_text_reader_number_none 0 1 33 o0 o0_1
      (fun r298 r299 r300 r301 r302 =>
       twice
        (bi (decide ((o6.length + [r298].length) * 8 ≤ lim))
         (g38_19 s r299 r300 r301 r302 o1 o1_1 o1_2 o1_3 o2 o3 o4 o4_1 o4_2 o4_3 o5 (o6 ++ [r298]))
         none))
      (fun r303 r304 r305 =>
       twice
        (bi (decide ((o6.length + [r303].length) * 8 ≤ lim))
         (g38_19b s r304 r305 o1 o1_1 o1_2 o1_3 o2 o3 o4 o4_1 o4_2 o4_3 o5 (o6 ++ [r303]))
         none))))
    (g38_19b s o0 o0_1 o1 o1_1 o1_2 o1_3 o2 o3 o4 o4_1 o4_2 o4_3 o5 o6))
   (bi (decide (o0_1 < (o0.length : Int)))
    (K0 o4 o4_1 o4_2 o4_3 o0 o0_1 6 o0_1 o5 o6)
    (K1 o4 o4_1 o4_2 o4_3 o0 o0_1 o5 o6))

/-- (*tutor/text.reader).read -/
def s_text_reader_read_none_19a {R : Type} (g38_15 : GT_text_reader_read_none_15a R) (g38_15b : GT_text_reader_read_none_15b R) (g38_19 : GT_text_reader_read_none_19a R) (g38_19b : GT_text_reader_read_none_19b R) (g38_20 : GT_text_reader_read_none_20a R) (g38_20b : GT_text_reader_read_none_20b R) (g38_25 : GT_text_reader_read_none_25a R) (g38_25b : GT_text_reader_read_none_25b R) (g38_21 : GT_text_reader_read_none_21a R) (g38_21b : GT_text_reader_read_none_21b R) (K0 : Int → Int → Int → Int → (List Int) → Int → Int → Int → (List Int) → (List Int) → Option R) (K1 : Int → Int → Int → Int → (List Int) → Int → (List Int) → (List Int) → Option R) (s : Int) (o0 : List Int) (o0_1 o1 o1_1 o2 o2_1 o2_2 o2_3 : Int) (o3 o4 : List Int) (o5 o5_1 o5_2 o5_3 : Int) (o6 o7 : List Int) : Option R :=
  g38_20 s 0 o0 o0_1 o1 o1_1 o2 o2_1 o2_2 o2_3 o3 o4 o5 o5_1 o5_2 o5_3 o6 o7

/-- (*tutor/text.reader).read -/
def s_text_reader_read_none_19b {R : Type} (g38_15 : GT_text_reader_read_none_15a R) (g38_15b : GT_text_reader_read_none_15b R) (g38_19 : GT_text_reader_read_none_19a R) (g38_19b : GT_text_reader_read_none_19b R) (g38_20 : GT_text_reader_read_none_20a R) (g38_20b : GT_text_reader_read_none_20b R) (g38_25 : GT_text_reader_read_none_25a R) (g38_25b : GT_text_reader_read_none_25b R) (g38_21 : GT_text_reader_read_none_21a R) (g38_21b : GT_text_reader_read_none_21b R) (K0 : Int → Int → Int → Int → (List Int) → Int → Int → Int → (List Int) → (List Int) → Option R) (K1 : Int → Int → Int → Int → (List Int) → Int → (List Int) → (List Int) → Option R) (s : Int) (o0 : List Int) (o0_1 o1 o1_1 o1_2 o1_3 : Int) (o2 o3 : List Int) (o4 o4_1 o4_2 o4_3 : Int) (o5 o6 : List Int) : Option R :=
  g38_20b s 0 o0 o0_1 o1 o1_1 o1_2 o1_3 o2 o3 o4 o4_1 o4_2 o4_3 o5 o6

/-- (*tutor/text.reader).read -/
def s_text_reader_read_none_20a {R : Type} (g38_15 : GT_text_reader_read_none_15a R) (g38_15b : GT_text_reader_read_none_15b R) (g38_19 : GT_text_reader_read_none_19a R) (g38_19b : GT_text_reader_read_none_19b R) (g38_20 : GT_text_reader_read_none_20a R) (g38_20b : GT_text_reader_read_none_20b R) (g38_25 : GT_text_reader_read_none_25a R) (g38_25b : GT_text_reader_read_none_25b R) (g38_21 : GT_text_reader_read_none_21a R) (g38_21b : GT_text_reader_read_none_21b R) (K0 : Int → Int → Int → Int → (List Int) → Int → Int → Int → (List Int) → (List Int) → Option R) (K1 : Int → Int → Int → Int → (List Int) → Int → (List Int) → (List Int) → Option R) (s x : Int) (o0 : List Int) (o0_1 o1 o1_1 o2 o2_1 o2_2 o2_3 : Int) (o3 o4 : List Int) (o5 o5_1 o5_2 o5_3 : Int) (o6 o7 : List Int) : Option R :=
  bi (decide (x < o5_1))
   (l_text_reader_want_fault (ByteArray.mk #[10]) o0 o0_1 o1 o1_1
    (fun r306 r307 r308 r309 =>
     g38_15 (IntKind.i64.wrap (s + 1)) r306 r307 r308 r309 o2 o2_1 o2_2 o2_3 o3 o4 o5 o5_1 o5_2 o5_3 o6 o7))
   (l_text_reader_want_fault (ByteArray.mk #[10]) o0 o0_1 o1 o1_1
    (fun r310 r311 r312 r313 =>
     g38_15 (IntKind.i64.wrap (s + 1)) r310 r311 r312 r313 o2 o2_1 o2_2 o2_3 o3 o4 o5 o5_1 o5_2 o5_3 o6 o7))

/-- (*tutor/text.reader).read -/
def s_text_reader_read_none_20b {R : Type} (g38_15 : GT_text_reader_read_none_15a R) (g38_15b : GT_text_reader_read_none_15b R) (g38_19 : GT_text_reader_read_none_19a R) (g38_19b : GT_text_reader_read_none_19b R) (g38_20 : GT_text_reader_read_none_20a R) (g38_20b : GT_text_reader_read_none_20b R) (g38_25 : GT_text_reader_read_none_25a R) (g38_25b : GT_text_reader_read_none_25b R) (g38_21 : GT_text_reader_read_none_21a R) (g38_21b : GT_text_reader_read_none_21b R) (K0 : Int → Int → Int → Int → (List Int) → Int → Int → Int → (List Int) → (List Int) → Option R) (K1 : Int → Int → Int → Int → (List Int) → Int → (List Int) → (List Int) → Option R) (s x : Int) (o0 : List Int) (o0_1 o1 o1_1 o1_2 o1_3 : Int) (o2 o3 : List Int) (o4 o4_1 o4_2 o4_3 : Int) (o5 o6 : List Int) : Option R :=
  bi (decide (x < o4_1))
   (bi (decide (x > 0))
    (l_text_reader_want_none (ByteArray.mk #[32]) o0 o0_1
     (fun r314 r315 r316 r317 =>
      both
       (l_text_reader_number_fault 0 (IntKind.i64.wrap (o4_3 - 1)) 32 r314 r315 r316 r317
        (fun r318 r319 r320 r321 r322 =>
         bi (decide ((o5.length + [r318].length) * 8 ≤ lim))
          (g38_25 s x r319 r320 r321 r322 o1 o1_1 o1_2 o1_3 o2 o3 o4 o4_1 o4_2 o4_3 (o5 ++ [r318]) o6)
          none))
       (l_text_reader_number_fault 0 (IntKind.i64.wrap (o4_3 - 1)) 32 r314 r315 r316 r317
        (fun r318 r319 r320 r321 r322 =>
         twice
          (bi (decide ((o5.length + [r318].length) * 8 ≤ lim))
           (g38_25 s x r319 r320 r321 r322 o1 o1_1 o1_2 o1_3 o2 o3 o4 o4_1 o4_2 o4_3 (o5 ++ [r318]) o6)
           none))))
     (fun r323 r324 =>
      both
       (l_text_reader_number_none 0 (IntKind.i64.wrap (o4_3 - 1)) 32 r323 r324
        (fun r325 r326 r327 r328 r329 =>
         bi (decide ((o5.length + [r325].length) * 8 ≤ lim))
          (g38_25 s x r326 r327 r328 r329 o1 o1_1 o1_2 o1_3 o2 o3 o4 o4_1 o4_2 o4_3 (o5 ++ [r325]) o6)
          none)
        (fun r330 r331 r332 =>
         bi (decide ((o5.length + [r330].length) * 8 ≤ lim))
          (g38_25b s x r331 r332 o1 o1_1 o1_2 o1_3 o2 o3 o4 o4_1 o4_2 o4_3 (o5 ++ [r330]) o6)
          none))
       (l_text_reader_number_none 0 (IntKind.i64.wrap (o4_3 - 1)) 32 r323 r324
        (fun r325 r326 r327 r328 r329 =>
         twice
          (bi (decide ((o5.length + [r325].length) * 8 ≤ lim))
           (g38_25 s x r326 r327 r328 r329 o1 o1_1 o1_2 o1_3 o2 o3 o4 o4_1 o4_2 o4_3 (o5 ++ [r325]) o6)
           none))
        (fun r330 r331 r332 =>
         twice
          (bi (decide ((o5.length + [r330].length) * 8 ≤ lim))
           (g38_25b s x r331 r332 o1 o1_1 o1_2 o1_3 o2 o3 o4 o4_1 o4_2 o4_3 (o5 ++ [r330]) o6)
           none)))))
    (bi (o4 == 1)
     (l_text_reader_want_none (ByteArray.mk #[32]) o0 o0_1
      (fun r333 r334 r335 r336 =>
       both
        (l_text_reader_number_fault 0 (IntKind.i64.wrap (o4_3 - 1)) 32 r333 r334 r335 r336
         (fun r337 r338 r339 r340 r341 =>
          bi (decide ((o5.length + [r337].length) * 8 ≤ lim))
           (g38_25 s x r338 r339 r340 r341 o1 o1_1 o1_2 o1_3 o2 o3 o4 o4_1 o4_2 o4_3 (o5 ++ [r337]) o6)
           none))
        (l_text_reader_number_fault 0 (IntKind.i64.wrap (o4_3 - 1)) 32 r333 r334 r335 r336
         (fun r337 r338 r339 r340 r341 =>
          twice
           (bi (decide ((o5.length + [r337].length) * 8 ≤ lim))
            (g38_25 s x r338 r339 r340 r341 o1 o1_1 o1_2 o1_3 o2 o3 o4 o4_1 o4_2 o4_3 (o5 ++ [r337]) o6)
            none))))
      (fun r342 r343 =>
       both
        (l_text_reader_number_none 0 (IntKind.i64.wrap (o4_3 - 1)) 32 r342 r343
         (fun r344 r345 r346 r347 r348 =>
          bi (decide ((o5.length + [r344].length) * 8 ≤ lim))
           (g38_25 s x r345 r346 r347 r348 o1 o1_1 o1_2 o1_3 o2 o3 o4 o4_1 o4_2 o4_3 (o5 ++ [r344]) o6)
           none)
         (fun r349 r350 r351 =>
          bi (decide ((o5.length + [r349].length) * 8 ≤ lim))
           (g38_25b s x r350 r351 o1 o1_1 o1_2 o1_3 o2 o3 o4 o4_1 o4_2 o4_3 (o5 ++ [r349]) o6)
           none))
        (l_text_reader_number_none 0 (IntKind.i64.wrap (o4_3 - 1)) 32 r342 r343
         (fun r344 r345 r346 r347 r348 =>
          twice
           (bi (decide ((o5.length + [r344].length) * 8 ≤ lim))
            (g38_25 s x r345 r346 r347 r348 o1 o1_1 o1_2 o1_3 o2 o3 o4 o4_1 o4_2 o4_3 (o5 ++ [r344]) o6)
            none))
         (fun r349 r350 r351 =>
          twice
           (bi (decide ((o5.length + [r349].length) * 8 ≤ lim))
            (g38_25b s x r350 r351 o1 o1_1 o1_2 o1_3 o2 o3 o4 o4_1 o4_2 o4_3 (o5 ++ [r349]) o6)
            none)))))
     (both
      (l_text_reader_number_none 0 (IntKind.i64.wrap (o4_3 - 1)) 32 o0 o0_1
       (fun r352 r353 r354 r355 r356 =>
        bi (decide ((o5.length + [r352].length) * 8 ≤ lim))
         (g38_25 s x r353 r354 r355 r356 o1 o1_1 o1_2 o1_3 o2 o3 o4 o4_1 o4_2 o4_3 (o5 ++ [r352]) o6)
         none)
       (fun r357 r358 r359 =>
        bi (decide ((o5.length + [r357].length) * 8 ≤ lim))
         (g38_25b s x r358 r359 o1 o1_1 o1_2 o1_3 o2 o3 o4 o4_1 o4_2 o4_3 (o5 ++ [r357]) o6)
         none))
      (l_text_reader_number_none 0 (IntKind.i64.wrap (o4_3 - 1)) 32 o0 o0_1
       (fun r352 r353 r354 r355 r356 =>
        twice
         (bi (decide ((o5.length + [r352].length) * 8 ≤ lim))
          (g38_25 s x r353 r354 r355 r356 o1 o1_1 o1_2 o1_3 o2 o3 o4 o4_1 o4_2 o4_3 (o5 ++ [r352]) o6)
          none))
       (fun r357 r358 r359 =>
        twice
         (bi (decide ((o5.length + [r357].length) * 8 ≤ lim))
          (g38_25b s x r358 r359 o1 o1_1 o1_2 o1_3 o2 o3 o4 o4_1 o4_2 o4_3 (o5 ++ [r357]) o6)
          none))))))
   (l_text_reader_want_none (ByteArray.mk #[10]) o0 o0_1
    (fun r360 r361 r362 r363 =>
     g38_15 (IntKind.i64.wrap (s + 1)) r360 r361 r362 r363 o1 o1_1 o1_2 o1_3 o2 o3 o4 o4_1 o4_2 o4_3 o5 o6)
    (fun r364 r365 =>
     g38_15b (IntKind.i64.wrap (s + 1)) r364 r365 o1 o1_1 o1_2 o1_3 o2 o3 o4 o4_1 o4_2 o4_3 o5 o6))

/-- (*tutor/text.reader).read -/
def s_text_reader_read_none_25a {R : Type} (g38_15 : GT_text_reader_read_none_15a R) (g38_15b : GT_text_reader_read_none_15b R) (g38_19 : GT_text_reader_read_none_19a R) (g38_19b : GT_text_reader_read_none_19b R) (g38_20 : GT_text_reader_read_none_20a R) (g38_20b : GT_text_reader_read_none_20b R) (g38_25 : GT_text_reader_read_none_25a R) (g38_25b : GT_text_reader_read_none_25b R) (g38_21 : GT_text_reader_read_none_21a R) (g38_21b : GT_text_reader_read_none_21b R) (K0 : Int → Int → Int → Int → (List Int) → Int → Int → Int → (List Int) → (List Int) → Option R) (K1 : Int → Int → Int → Int → (List Int) → Int → (List Int) → (List Int) → Option R) (s x : Int) (o0 : List Int) (o0_1 o1 o1_1 o2 o2_1 o2_2 o2_3 : Int) (o3 o4 : List Int) (o5 o5_1 o5_2 o5_3 : Int) (o6 o7 : List Int) : Option R :=
  bi (o5 == 2)
   (l_text_reader_want_fault (ByteArray.mk #[47]) o0 o0_1 o1 o1_1
    (fun r366 r367 r368 r369 =>
     both
      (l_text_reader_number_fault 0 (IntKind.i64.wrap (o5_2 - 1)) 33 r366 r367 r368 r369
       (fun r370 r371 r372 r373 r374 =>
        bi (decide ((o7.length + [r370].length) * 8 ≤ lim))
         (g38_21 s x r371 r372 r373 r374 o2 o2_1 o2_2 o2_3 o3 o4 o5 o5_1 o5_2 o5_3 o6 (o7 ++ [r370]))
         none))
      (l_text_reader_number_fault 0 (IntKind.i64.wrap (o5_2 - 1)) 33 r366 r367 r368 r369
       (fun r370 r371 r372 r373 r374 =>
        twice
         (bi (decide ((o7.length + [r370].length) * 8 ≤ lim))
          (g38_21 s x r371 r372 r373 r374 o2 o2_1 o2_2 o2_3 o3 o4 o5 o5_1 o5_2 o5_3 o6 (o7 ++ [r370]))
          none)))))
   (g38_21 s x o0 o0_1 o1 o1_1 o2 o2_1 o2_2 o2_3 o3 o4 o5 o5_1 o5_2 o5_3 o6 o7)

/-- (*tutor/text.reader).read -/
def s_text_reader_read_none_25b {R : Type} (g38_15 : GT_text_reader_read_none_15a R) (g38_15b : GT_text_reader_read_none_15b R) (g38_19 : GT_text_reader_read_none_19a R) (g38_19b : GT_text_reader_read_none_19b R) (g38_20 : GT_text_reader_read_none_20a R) (g38_20b : GT_text_reader_read_none_20b R) (g38_25 : GT_text_reader_read_none_25a R) (g38_25b : GT_text_reader_read_none_25b R) (g38_21 : GT_text_reader_read_none_21a R) (g38_21b : GT_text_reader_read_none_21b R) (K0 : Int → Int → Int → Int → (List Int) → Int → Int → Int → (List Int) → (List Int) → Option R) (K1 : Int → Int → Int → Int → (List Int) → Int → (List Int) → (List Int) → Option R) (s x : Int) (o0 : List Int) (o0_1 o1 o1_1 o1_2 o1_3 : Int) (o2 o3 : List Int) (o4 o4_1 o4_2 o4_3 : Int) (o5 o6 : List Int) : Option R :=
  bi (o4 == 2)
   (l_text_reader_want_none (ByteArray.mk #[47]) o0 o0_1
    (fun r375 r376 r377 r378 =>
     both
      (l_text_reader_number_fault 0 (IntKind.i64.wrap (o4_2 - 1)) 33 r375 r376 r377 r378
       (fun r379 r380 r381 r382 r383 =>
        bi (decide ((o6.length + [r379].length) * 8 ≤ lim))
         (g38_21 s x r380 r381 r382 r383 o1 o1_1 o1_2 o1_3 o2 o3 o4 o4_1 o4_2 o4_3 o5 (o6 ++ [r379]))
         none))
      (l_text_reader_number_fault 0 (IntKind.i64.wrap (o4_2 - 1)) 33 r375 r376 r377 r378
       (fun r379 r380 r381 r382 r383 =>
        twice
         (bi (decide ((o6.length + [r379].length) * 8 ≤ lim))
          (g38_21 s x r380 r381 r382 r383 o1 o1_1 o1_2 o1_3 o2 o3 o4 o4_1 o4_2 o4_3 o5 (o6 ++ [r379]))
          none))))
    (fun r384 r385 =>
     both
      (l_text_reader_number_none 0 (IntKind.i64.wrap (o4_2 - 1)) 33 r384 r385
       (fun r386 r387 r388 r389 r390 =>
        bi (decide ((o6.length + [r386].length) * 8 ≤ lim))
         (g38_21 s x r387 r388 r389 r390 o1 o1_1 o1_2 o1_3 o2 o3 o4 o4_1 o4_2 o4_3 o5 (o6 ++ [r386]))
         none)
       (fun r391 r392 r393 =>
        bi (decide ((o6.length + [r391].length) * 8 ≤ lim))
         (g38_21b s x r392 r393 o1 o1_1 o1_2 o1_3 o2 o3 o4 o4_1 o4_2 o4_3 o5 (o6 ++ [r391]))
         none))
      (l_text_reader_number_none 0 (IntKind.i64.wrap (o4_2 - 1)) 33 r384 r385
       (fun r386 r387 r388 r389 r390 =>
        twice
         (bi (decide ((o6.length + [r386].length) * 8 ≤ lim))
          (g38_21 s x r387 r388 r389 r390 o1 o1_1 o1_2 o1_3 o2 o3 o4 o4_1 o4_2 o4_3 o5 (o6 ++ [r386]))
          none))
       (fun r391 r392 r393 =>
        twice
         (bi (decide ((o6.length + [r391].length) * 8 ≤ lim))
          (g38_21b s x r392 r393 o1 o1_1 o1_2 o1_3 o2 o3 o4 o4_1 o4_2 o4_3 o5 (o6 ++ [r391]))
          none)))))
   (g38_21b s x o0 o0_1 o1 o1_1 o1_2 o1_3 o2 o3 o4 o4_1 o4_2 o4_3 o5 o6)

/-- (*tutor/text.reader).read -/
def s_text_reader_read_none_21a {R : Type} (g38_15 : GT_text_reader_read_none_15a R) (g38_15b : GT_text_reader_read_none_15b R) (g38_19 : GT_text_reader_read_none_19a R) (g38_19b : GT_text_reader_read_none_19b R) (g38_20 : GT_text_reader_read_none_20a R) (g38_20b : GT_text_reader_read_none_20b R) (g38_25 : GT_text_reader_read_none_25a R) (g38_25b : GT_text_reader_read_none_25b R) (g38_21 : GT_text_reader_read_none_21a R) (g38_21b : GT_text_reader_read_none_21b R) (K0 : Int → Int → Int → Int → (List Int) → Int → Int → Int → (List Int) → (List Int) → Option R) (K1 : Int → Int → Int → Int → (List Int) → Int → (List Int) → (List Int) → Option R) (s x : Int) (o0 : List Int) (o0_1 o1 o1_1 o2 o2_1 o2_2 o2_3 : Int) (o3 o4 : List Int) (o5 o5_1 o5_2 o5_3 : Int) (o6 o7 : List Int) : Option R :=
  g38_20 s (IntKind.i64.wrap (x + 1)) o0 o0_1 o1 o1_1 o2 o2_1 o2_2 o2_3 o3 o4 o5 o5_1 o5_2 o5_3 o6 o7

/-- (*tutor/text.reader).read -/
def s_text_reader_read_none_21b {R : Type} (g38_15 : GT_text_reader_read_none_15a R) (g38_15b : GT_text_reader_read_none_15b R) (g38_19 : GT_text_reader_read_none_19a R) (g38_19b : GT_text_reader_read_none_19b R) (g38_20 : GT_text_reader_read_none_20a R) (g38_20b : GT_text_reader_read_none_20b R) (g38_25 : GT_text_reader_read_none_25a R) (g38_25b : GT_text_reader_read_none_25b R) (g38_21 : GT_text_reader_read_none_21a R) (g38_21b : GT_text_reader_read_none_21b R) (K0 : Int → Int → Int → Int → (List Int) → Int → Int → Int → (List Int) → (List Int) → Option R) (K1 : Int → Int → Int → Int → (List Int) → Int → (List Int) → (List Int) → Option R) (s x : Int) (o0 : List Int) (o0_1 o1 o1_1 o1_2 o1_3 : Int) (o2 o3 : List Int) (o4 o4_1 o4_2 o4_3 : Int) (o5 o6 : List Int) : Option R :=
  g38_20b s (IntKind.i64.wrap (x + 1)) o0 o0_1 o1 o1_1 o1_2 o1_3 o2 o3 o4 o4_1 o4_2 o4_3 o5 o6

/-- (*tutor/text.reader).read -/
def e_text_reader_read_none {R : Type} (g38_15 : GT_text_reader_read_none_15a R) (g38_15b : GT_text_reader_read_none_15b R) (g38_19 : GT_text_reader_read_none_19a R) (g38_19b : GT_text_reader_read_none_19b R) (g38_20 : GT_text_reader_read_none_20a R) (g38_20b : GT_text_reader_read_none_20b R) (g38_25 : GT_text_reader_read_none_25a R) (g38_25b : GT_text_reader_read_none_25b R) (g38_21 : GT_text_reader_read_none_21a R) (g38_21b : GT_text_reader_read_none_21b R) (K0 : Int → Int → Int → Int → (List Int) → Int → Int → Int → (List Int) → (List Int) → Option R) (K1 : Int → Int → Int → Int → (List Int) → Int → (List Int) → (List Int) → Option R) (o0 : List Int) (o0_1 : Int) : Option R :=
  bi (decide ((o0.length : Int) > 0))
   (bi (decide (0 ≤ (0 : Int) ∧ (0 : Int) < ((o0.length : Nat) : Int)))
    (bi ((o0.getD 0 0) == 109)
     (l_text_reader_want_none (ByteArray.mk #[109, 101, 97, 108, 121, 32]) o0 o0_1
      (fun r1 r2 r3 r4 =>
       l_text_reader_number_fault 1 64 1 r1 r2 r3 r4
        (fun r5 r6 r7 r8 r9 =>
         l_text_reader_want_fault (ByteArray.mk #[32]) r6 r7 r8 r9
          (fun r10 r11 r12 r13 =>
           l_text_reader_number_fault 1 64 33 r10 r11 r12 r13
            (fun r14 r15 r16 r17 r18 =>
             l_text_reader_want_fault (ByteArray.mk #[32]) r15 r16 r17 r18
              (fun r19 r20 r21 r22 =>
               l_text_reader_number_fault 1 1024 3 r19 r20 r21 r22
                (fun r23 r24 r25 r26 r27 =>
                 l_text_reader_want_fault (ByteArray.mk #[10]) r24 r25 r26 r27
                  (fun r28 r29 r30 r31 =>
                   g38_15 0 r28 r29 r30 r31 0 0 0 0 ([] : List Int) ([] : List Int) 2 r5 r14 r23 ([] : List Int) ([] : List Int))))))))
      (fun r32 r33 =>
       l_text_reader_number_none 1 64 1 r32 r33
        (fun r34 r35 r36 r37 r38 =>
         l_text_reader_want_fault (ByteArray.mk #[32]) r35 r36 r37 r38
          (fun r39 r40 r41 r42 =>
           l_text_reader_number_fault 1 64 33 r39 r40 r41 r42
            (fun r43 r44 r45 r46 r47 =>
             l_text_reader_want_fault (ByteArray.mk #[32]) r44 r45 r46 r47
              (fun r48 r49 r50 r51 =>
               l_text_reader_number_fault 1 1024 3 r48 r49 r50 r51
                (fun r52 r53 r54 r55 r56 =>
                 l_text_reader_want_fault (ByteArray.mk #[10]) r53 r54 r55 r56
                  (fun r57 r58 r59 r60 =>
                   g38_15 0 r57 r58 r59 r60 0 0 0 0 ([] : List Int) ([] : List Int) 2 r34 r43 r52 ([] : List Int) ([] : List Int)))))))
        (fun r61 r62 r63 =>
         l_text_reader_want_none (ByteArray.mk #[32]) r62 r63
          (fun r64 r65 r66 r67 =>
           l_text_reader_number_fault 1 64 33 r64 r65 r66 r67
            (fun r68 r69 r70 r71 r72 =>
             l_text_reader_want_fault (ByteArray.mk #[32]) r69 r70 r71 r72
              (fun r73 r74 r75 r76 =>
               l_text_reader_number_fault 1 1024 3 r73 r74 r75 r76
                (fun r77 r78 r79 r80 r81 =>
                 l_text_reader_want_fault (ByteArray.mk #[10]) r78 r79 r80 r81
                  (fun r82 r83 r84 r85 =>
                   g38_15 0 r82 r83 r84 r85 0 0 0 0 ([] : List Int) ([] : List Int) 2 r61 r68 r77 ([] : List Int) ([] : List Int))))))
          (fun r86 r87 =>
           l_text_reader_number_none 1 64 33 r86 r87
            (fun r88 r89 r90 r91 r92 =>
             l_text_reader_want_fault (ByteArray.mk #[32]) r89 r90 r91 r92
              (fun r93 r94 r95 r96 =>
               l_text_reader_number_fault 1 1024 3 r93 r94 r95 r96
                (fun r97 r98 r99 r100 r101 =>
                 l_text_reader_want_fault (ByteArray.mk #[10]) r98 r99 r100 r101
                  (fun r102 r103 r104 r105 =>
                   g38_15 0 r102 r103 r104 r105 0 0 0 0 ([] : List Int) ([] : List Int) 2 r61 r88 r97 ([] : List Int) ([] : List Int)))))
            (fun r106 r107 r108 =>
             l_text_reader_want_none (ByteArray.mk #[32]) r107 r108
              (fun r109 r110 r111 r112 =>
               l_text_reader_number_fault 1 1024 3 r109 r110 r111 r112
                (fun r113 r114 r115 r116 r117 =>
                 l_text_reader_want_fault (ByteArray.mk #[10]) r114 r115 r116 r117
                  (fun r118 r119 r120 r121 =>
                   g38_15 0 r118 r119 r120 r121 0 0 0 0 ([] : List Int) ([] : List Int) 2 r61 r106 r113 ([] : List Int) ([] : List Int))))
              (fun r122 r123 =>
               l_text_reader_number_none 1 1024 3 r122 r123
                (fun r124 r125 r126 r127 r128 =>
                 l_text_reader_want_fault (ByteArray.mk #[10]) r125 r126 r127 r128
                  (fun r129 r130 r131 r132 =>
                   g38_15 0 r129 r130 r131 r132 0 0 0 0 ([] : List Int) ([] : List Int) 2 r61 r106 r124 ([] : List Int) ([] : List Int)))
                (fun r133 r134 r135 =>
                 l_text_reader_want_none (ByteArray.mk #[10]) r134 r135
                  (fun r136 r137 r138 r139 =>
                   g38_15 0 r136 r137 r138 r139 0 0 0 0 ([] : List Int) ([] : List Int) 2 r61 r106 r133 ([] : List Int) ([] : List Int))
                  (fun r140 r141 =>
                   g38_15b 0 r140 r141 0 0 0 0 ([] : List Int) ([] : List Int) 2 r61 r106 r133 ([] : List Int) ([] : List Int)))))))))
     (l_text_reader_want_none (ByteArray.mk #[100, 102, 97, 32]) o0 o0_1
      (fun r142 r143 r144 r145 =>
       l_text_reader_number_fault 1 64 1 r142 r143 r144 r145
        (fun r146 r147 r148 r149 r150 =>
         l_text_reader_want_fault (ByteArray.mk #[32]) r147 r148 r149 r150
          (fun r151 r152 r153 r154 =>
           l_text_reader_number_fault 1 1024 3 r151 r152 r153 r154
            (fun r155 r156 r157 r158 r159 =>
             l_text_reader_want_fault (ByteArray.mk #[10]) r156 r157 r158 r159
              (fun r160 r161 r162 r163 =>
               g38_15 0 r160 r161 r162 r163 0 0 0 0 ([] : List Int) ([] : List Int) 1 r146 2 r155 ([] : List Int) ([] : List Int))))))
      (fun r164 r165 =>
       l_text_reader_number_none 1 64 1 r164 r165
        (fun r166 r167 r168 r169 r170 =>
         l_text_reader_want_fault (ByteArray.mk #[32]) r167 r168 r169 r170
          (fun r171 r172 r173 r174 =>
           l_text_reader_number_fault 1 1024 3 r171 r172 r173 r174
            (fun r175 r176 r177 r178 r179 =>
             l_text_reader_want_fault (ByteArray.mk #[10]) r176 r177 r178 r179
              (fun r180 r181 r182 r183 =>
               g38_15 0 r180 r181 r182 r183 0 0 0 0 ([] : List Int) ([] : List Int) 1 r166 2 r175 ([] : List Int) ([] : List Int)))))
        (fun r184 r185 r186 =>
         l_text_reader_want_none (ByteArray.mk #[32]) r185 r186
          (fun r187 r188 r189 r190 =>
           l_text_reader_number_fault 1 1024 3 r187 r188 r189 r190
            (fun r191 r192 r193 r194 r195 =>
             l_text_reader_want_fault (ByteArray.mk #[10]) r192 r193 r194 r195
              (fun r196 r197 r198 r199 =>
               g38_15 0 r196 r197 r198 r199 0 0 0 0 ([] : List Int) ([] : List Int) 1 r184 2 r191 ([] : List Int) ([] : List Int))))
          (fun r200 r201 =>
           l_text_reader_number_none 1 1024 3 r200 r201
            (fun r202 r203 r204 r205 r206 =>
             l_text_reader_want_fault (ByteArray.mk #[10]) r203 r204 r205 r206
              (fun r207 r208 r209 r210 =>
               g38_15 0 r207 r208 r209 r210 0 0 0 0 ([] : List Int) ([] : List Int) 1 r184 2 r202 ([] : List Int) ([] : List Int)))
            (fun r211 r212 r213 =>
             l_text_reader_want_none (ByteArray.mk #[10]) r212 r213
              (fun r214 r215 r216 r217 =>
               g38_15 0 r214 r215 r216 r217 0 0 0 0 ([] : List Int) ([] : List Int) 1 r184 2 r211 ([] : List Int) ([] : List Int))
              (fun r218 r219 =>
               g38_15b 0 r218 r219 0 0 0 0 ([] : List Int) ([] : List Int) 1 r184 2 r211 ([] : List Int) ([] : List Int))))))))
    none)
   (l_text_reader_want_none (ByteArray.mk #[100, 102, 97, 32]) o0 o0_1
    (fun r220 r221 r222 r223 =>
     l_text_reader_number_fault 1 64 1 r220 r221 r222 r223
      (fun r224 r225 r226 r227 r228 =>
       l_text_reader_want_fault (ByteArray.mk #[32]) r225 r226 r227 r228
        (fun r229 r230 r231 r232 =>
         l_text_reader_number_fault 1 1024 3 r229 r230 r231 r232
          (fun r233 r234 r235 r236 r237 =>
           l_text_reader_want_fault (ByteArray.mk #[10]) r234 r235 r236 r237
            (fun r238 r239 r240 r241 =>
             g38_15 0 r238 r239 r240 r241 0 0 0 0 ([] : List Int) ([] : List Int) 1 r224 2 r233 ([] : List Int) ([] : List Int))))))
    (fun r242 r243 =>
     l_text_reader_number_none 1 64 1 r242 r243
      (fun r244 r245 r246 r247 r248 =>
       l_text_reader_want_fault (ByteArray.mk #[32]) r245 r246 r247 r248
        (fun r249 r250 r251 r252 =>
         l_text_reader_number_fault 1 1024 3 r249 r250 r251 r252
          (fun r253 r254 r255 r256 r257 =>
           l_text_reader_want_fault (ByteArray.mk #[10]) r254 r255 r256 r257
            (fun r258 r259 r260 r261 =>
             g38_15 0 r258 r259 r260 r261 0 0 0 0 ([] : List Int) ([] : List Int) 1 r244 2 r253 ([] : List Int) ([] : List Int)))))
      (fun r262 r263 r264 =>
       l_text_reader_want_none (ByteArray.mk #[32]) r263 r264
        (fun r265 r266 r267 r268 =>
         l_text_reader_number_fault 1 1024 3 r265 r266 r267 r268
          (fun r269 r270 r271 r272 r273 =>
           l_text_reader_want_fault (ByteArray.mk #[10]) r270 r271 r272 r273
            (fun r274 r275 r276 r277 =>
             g38_15 0 r274 r275 r276 r277 0 0 0 0 ([] : List Int) ([] : List Int) 1 r262 2 r269 ([] : List Int) ([] : List Int))))
        (fun r278 r279 =>
         l_text_reader_number_none 1 1024 3 r278 r279
          (fun r280 r281 r282 r283 r284 =>
           l_text_reader_want_fault (ByteArray.mk #[10]) r281 r282 r283 r284
            (fun r285 r286 r287 r288 =>
             g38_15 0 r285 r286 r287 r288 0 0 0 0 ([] : List Int) ([] : List Int) 1 r262 2 r280 ([] : List Int) ([] : List Int)))
          (fun r289 r290 r291 =>
           l_text_reader_want_none (ByteArray.mk #[10]) r290 r291
            (fun r292 r293 r294 r295 =>
             g38_15 0 r292 r293 r294 r295 0 0 0 0 ([] : List Int) ([] : List Int) 1 r262 2 r289 ([] : List Int) ([] : List Int))
            (fun r296 r297 =>
             g38_15b 0 r296 r297 0 0 0 0 ([] : List Int) ([] : List Int) 1 r262 2 r289 ([] : List Int) ([] : List Int)))))))

def run_text_reader_read_none {R : Type} (K0 : Int → Int → Int → Int → (List Int) → Int → Int → Int → (List Int) → (List Int) → Option R) (K1 : Int → Int → Int → Int → (List Int) → Int → (List Int) → (List Int) → Option R) : Nat → (Int → (List Int) → Int → Int → Int → Int → Int → Int → Int → (List Int) → (List Int) → Int → Int → Int → Int → (List Int) → (List Int) → Option R) × (Int → (List Int) → Int → Int → Int → Int → Int → (List Int) → (List Int) → Int → Int → Int → Int → (List Int) → (List Int) → Option R) × (Int → (List Int) → Int → Int → Int → Int → Int → Int → Int → (List Int) → (List Int) → Int → Int → Int → Int → (List Int) → (List Int) → Option R) × (Int → (List Int) → Int → Int → Int → Int → Int → (List Int) → (List Int) → Int → Int → Int → Int → (List Int) → (List Int) → Option R) × (Int → Int → (List Int) → Int → Int → Int → Int → Int → Int → Int → (List Int) → (List Int) → Int → Int → Int → Int → (List Int) → (List Int) → Option R) × (Int → Int → (List Int) → Int → Int → Int → Int → Int → (List Int) → (List Int) → Int → Int → Int → Int → (List Int) → (List Int) → Option R) × (Int → Int → (List Int) → Int → Int → Int → Int → Int → Int → Int → (List Int) → (List Int) → Int → Int → Int → Int → (List Int) → (List Int) → Option R) × (Int → Int → (List Int) → Int → Int → Int → Int → Int → (List Int) → (List Int) → Int → Int → Int → Int → (List Int) → (List Int) → Option R) × (Int → Int → (List Int) → Int → Int → Int → Int → Int → Int → Int → (List Int) → (List Int) → Int → Int → Int → Int → (List Int) → (List Int) → Option R) × (Int → Int → (List Int) → Int → Int → Int → Int → Int → (List Int) → (List Int) → Int → Int → Int → Int → (List Int) → (List Int) → Option R)
  | 0 => (fun _ _ _ _ _ _ _ _ _ _ _ _ _ _ _ _ _ => none, fun _ _ _ _ _ _ _ _ _ _ _ _ _ _ _ => none, fun _ _ _ _ _ _ _ _ _ _ _ _ _ _ _ _ _ => none, fun _ _ _ _ _ _ _ _ _ _ _ _ _ _ _ => none, fun _ _ _ _ _ _ _ _ _ _ _ _ _ _ _ _ _ _ => none, fun _ _ _ _ _ _ _ _ _ _ _ _ _ _ _ _ => none, fun _ _ _ _ _ _ _ _ _ _ _ _ _ _ _ _ _ _ => none, fun _ _ _ _ _ _ _ _ _ _ _ _ _ _ _ _ => none, fun _ _ _ _ _ _ _ _ _ _ _ _ _ _ _ _ _ _ => none, fun _ _ _ _ _ _ _ _ _ _ _ _ _ _ _ _ => none)
  | n + 1 => (s_text_reader_read_none_15a (run_text_reader_read_none K0 K1 n).1 (run_text_reader_read_none K0 K1 n).2.1 (run_text_reader_read_none K0 K1 n).2.2.1 (run_text_reader_read_none K0 K1 n).2.2.2.1 (run_text_reader_read_none K0 K1 n).2.2.2.2.1 (run_text_reader_read_none K0 K1 n).2.2.2.2.2.1 (run_text_reader_read_none K0 K1 n).2.2.2.2.2.2.1 (run_text_reader_read_none K0 K1 n).2.2.2.2.2.2.2.1 (run_text_reader_read_none K0 K1 n).2.2.2.2.2.2.2.2.1 (run_text_reader_read_none K0 K1 n).2.2.2.2.2.2.2.2.2 K0 K1, s_text_reader_read_none_15b (run_text_reader_read_none K0 K1 n).1 (run_text_reader_read_none K0 K1 n).2.1 (run_text_reader_read_none K0 K1 n).2.2.1 (run_text_reader_read_none K0 K1 n).2.2.2.1 (run_text_reader_read_none K0 K1 n).2.2.2.2.1 (run_text_reader_read_none K0 K1 n).2.2.2.2.2.1 (run_text_reader_read_none K0 K1 n).2.2.2.2.2.2.1 (run_text_reader_read_none K0 K1 n).2.2.2.2.2.2.2.1 (run_text_reader_read_none K0 K1 n).2.2.2.2.2.2.2.2.1 (run_text_reader_read_none K0 K1 n).2.2.2.2.2.2.2.2.2 K0 K1, s_text_reader_read_none_19a (run_text_reader_read_none K0 K1 n).1 (run_text_reader_read_none K0 K1 n).2.1 (run_text_reader_read_none K0 K1 n).2.2.1 (run_text_reader_read_none K0 K1 n).2.2.2.1 (run_text_reader_read_none K0 K1 n).2.2.2.2.1 (run_text_reader_read_none K0 K1 n).2.2.2.2.2.1 (run_text_reader_read_none K0 K1 n).2.2.2.2.2.2.1 (run_text_reader_read_none K0 K1 n).2.2.2.2.2.2.2.1 (run_text_reader_read_none K0 K1 n).2.2.2.2.2.2.2.2.1 (run_text_reader_read_none K0 K1 n).2.2.2.2.2.2.2.2.2 K0 K1, s_text_reader_read_none_19b (run_text_reader_read_none K0 K1 n).1 (run_text_reader_read_none K0 K1 n).2.1 (run_text_reader_read_none K0 K1 n).2.2.1 (run_text_reader_read_none K0 K1 n).2.2.2.1 (run_text_reader_read_none K0 K1 n).2.2.2.2.1 (run_text_reader_read_none K0 K1 n).2.2.2.2.2.1 (run_text_reader_read_none K0 K1 n).2.2.2.2.2.2.1 (run_text_reader_read_none K0 K1 n).2.2.2.2.2.2.2.1 (run_text_reader_read_none K0 K1 n).2.2.2.2.2.2.2.2.1 (run_text_reader_read_none K0 K1 n).2.2.2.2.2.2.2.2.2 K0 K1, s_text_reader_read_none_20a (run_text_reader_read_none K0 K1 n).1 (run_text_reader_read_none K0 K1 n).2.1 (run_text_reader_read_none K0 K1 n).2.2.1 (run_text_reader_read_none K0 K1 n).2.2.2.1 (run_text_reader_read_none K0 K1 n).2.2.2.2.1 (run_text_reader_read_none K0 K1 n).2.2.2.2.2.1 (run_text_reader_read_none K0 K1 n).2.2.2.2.2.2.1 (run_text_reader_read_none K0 K1 n).2.2.2.2.2.2.2.1 (run_text_reader_read_none K0 K1 n).2.2.2.2.2.2.2.2.1 (run_text_reader_read_none K0 K1 n).2.2.2.2.2.2.2.2.2 K0 K1, s_text_reader_read_none_20b (run_text_reader_read_none K0 K1 n).1 (run_text_reader_read_none K0 K1 n).2.1 (run_text_reader_read_none K0 K1 n).2.2.1 (run_text_reader_read_none K0 K1 n).2.2.2.1 (run_text_reader_read_none K0 K1 n).2.2.2.2.1 (run_text_reader_read_none K0 K1 n).2.2.2.2.2.1 (run_text_reader_read_none K0 K1 n).2.2.2.2.2.2.1 (run_text_reader_read_none K0 K1 n).2.2.2.2.2.2.2.1 (run_text_reader_read_none K0 K1 n).2.2.2.2.2.2.2.2.1 (run_text_reader_read_none K0 K1 n).2.2.2.2.2.2.2.2.2 K0 K1, s_text_reader_read_none_25a (run_text_reader_read_none K0 K1 n).1 (run_text_reader_read_none K0 K1 n).2.1 (run_text_reader_read_none K0 K1 n).2.2.1 (run_text_reader_read_none K0 K1 n).2.2.2.1 (run_text_reader_read_none K0 K1 n).2.2.2.2.1 (run_text_reader_read_none K0 K1 n).2.2.2.2.2.1 (run_text_reader_read_none K0 K1 n).2.2.2.2.2.2.1 (run_text_reader_read_none K0 K1 n).2.2.2.2.2.2.2.1 (run_text_reader_read_none K0 K1 n).2.2.2.2.2.2.2.2.1 (run_text_reader_read_none K0 K1 n).2.2.2.2.2.2.2.2.2 K0 K1, s_text_reader_read_none_25b (run_text_reader_read_none K0 K1 n).1 (run_text_reader_read_none K0 K1 n).2.1 (run_text_reader_read_none K0 K1 n).2.2.1 (run_text_reader_read_none K0 K1 n).2.2.2.1 (run_text_reader_read_none K0 K1 n).2.2.2.2.1 (run_text_reader_read_none K0 K1 n).2.2.2.2.2.1 (run_text_reader_read_none K0 K1 n).2.2.2.2.2.2.1 (run_text_reader_read_none K0 K1 n).2.2.2.2.2.2.2.1 (run_text_reader_read_none K0 K1 n).2.2.2.2.2.2.2.2.1 (run_text_reader_read_none K0 K1 n).2.2.2.2.2.2.2.2.2 K0 K1, s_text_reader_read_none_21a (run_text_reader_read_none K0 K1 n).1 (run_text_reader_read_none K0 K1 n).2.1 (run_text_reader_read_none K0 K1 n).2.2.1 (run_text_reader_read_none K0 K1 n).2.2.2.1 (run_text_reader_read_none K0 K1 n).2.2.2.2.1 (run_text_reader_read_none K0 K1 n).2.2.2.2.2.1 (run_text_reader_read_none K0 K1 n).2.2.2.2.2.2.1 (run_text_reader_read_none K0 K1 n).2.2.2.2.2.2.2.1 (run_text_reader_read_none K0 K1 n).2.2.2.2.2.2.2.2.1 (run_text_reader_read_none K0 K1 n).2.2.2.2.2.2.2.2.2 K0 K1, s_text_reader_read_none_21b (run_text_reader_read_none K0 K1 n).1 (run_text_reader_read_none K0 K1 n).2.1 (run_text_reader_read_none K0 K1 n).2.2.1 (run_text_reader_read_none K0 K1 n).2.2.2.1 (run_text_reader_read_none K0 K1 n).2.2.2.2.1 (run_text_reader_read_none K0 K1 n).2.2.2.2.2.1 (run_text_reader_read_none K0 K1 n).2.2.2.2.2.2.1 (run_text_reader_read_none K0 K1 n).2.2.2.2.2.2.2.1 (run_text_reader_read_none K0 K1 n).2.2.2.2.2.2.2.2.1 (run_text_reader_read_none K0 K1 n).2.2.2.2.2.2.2.2.2 K0 K1)

def l_text_reader_read_none {R : Type} (o0 : List Int) (o0_1 : Int) (K0 : Int → Int → Int → Int → (List Int) → Int → Int → Int → (List Int) → (List Int) → Option R) (K1 : Int → Int → Int → Int → (List Int) → Int → (List Int) → (List Int) → Option R) : Option R := evl fun fuel => e_text_reader_read_none (run_text_reader_read_none K0 K1 fuel).1 (run_text_reader_read_none K0 K1 fuel).2.1 (run_text_reader_read_none K0 K1 fuel).2.2.1 (run_text_reader_read_none K0 K1 fuel).2.2.2.1 (run_text_reader_read_none K0 K1 fuel).2.2.2.2.1 (run_text_reader_read_none K0 K1 fuel).2.2.2.2.2.1 (run_text_reader_read_none K0 K1 fuel).2.2.2.2.2.2.1 (run_text_reader_read_none K0 K1 fuel).2.2.2.2.2.2.2.1 (run_text_reader_read_none K0 K1 fuel).2.2.2.2.2.2.2.2.1 (run_text_reader_read_none K0 K1 fuel).2.2.2.2.2.2.2.2.2 K0 K1 o0 o0_1

theorem ok_text_reader_read_none {R : Type} (o0 : List Int) (o0_1 : Int) (K0 : Int → Int → Int → Int → (List Int) → Int → Int → Int → (List Int) → (List Int) → Option R) (K1 : Int → Int → Int → Int → (List Int) → Int → (List Int) → (List Int) → Option R) {r : R} (h : l_text_reader_read_none o0 o0_1 K0 K1 = some r) : ∃ fuel, e_text_reader_read_none (run_text_reader_read_none K0 K1 fuel).1 (run_text_reader_read_none K0 K1 fuel).2.1 (run_text_reader_read_none K0 K1 fuel).2.2.1 (run_text_reader_read_none K0 K1 fuel).2.2.2.1 (run_text_reader_read_none K0 K1 fuel).2.2.2.2.1 (run_text_reader_read_none K0 K1 fuel).2.2.2.2.2.1 (run_text_reader_read_none K0 K1 fuel).2.2.2.2.2.2.1 (run_text_reader_read_none K0 K1 fuel).2.2.2.2.2.2.2.1 (run_text_reader_read_none K0 K1 fuel).2.2.2.2.2.2.2.2.1 (run_text_reader_read_none K0 K1 fuel).2.2.2.2.2.2.2.2.2 K0 K1 o0 o0_1 = some r := evl_ok h

theorem st_text_reader_read_none_15a {R : Type} (K0 : Int → Int → Int → Int → (List Int) → Int → Int → Int → (List Int) → (List Int) → Option R) (K1 : Int → Int → Int → Int → (List Int) → Int → (List Int) → (List Int) → Option R) (fuel : Nat) (s : Int) (o0 : List Int) (o0_1 o1 o1_1 o2 o2_1 o2_2 o2_3 : Int) (o3 o4 : List Int) (o5 o5_1 o5_2 o5_3 : Int) (o6 o7 : List Int) : (run_text_reader_read_none K0 K1 (fuel + 1)).1 s o0 o0_1 o1 o1_1 o2 o2_1 o2_2 o2_3 o3 o4 o5 o5_1 o5_2 o5_3 o6 o7 = s_text_reader_read_none_15a (run_text_reader_read_none K0 K1 fuel).1 (run_text_reader_read_none K0 K1 fuel).2.1 (run_text_reader_read_none K0 K1 fuel).2.2.1 (run_text_reader_read_none K0 K1 fuel).2.2.2.1 (run_text_reader_read_none K0 K1 fuel).2.2.2.2.1 (run_text_reader_read_none K0 K1 fuel).2.2.2.2.2.1 (run_text_reader_read_none K0 K1 fuel).2.2.2.2.2.2.1 (run_text_reader_read_none K0 K1 fuel).2.2.2.2.2.2.2.1 (run_text_reader_read_none K0 K1 fuel).2.2.2.2.2.2.2.2.1 (run_text_reader_read_none K0 K1 fuel).2.2.2.2.2.2.2.2.2 K0 K1 s o0 o0_1 o1 o1_1 o2 o2_1 o2_2 o2_3 o3 o4 o5 o5_1 o5_2 o5_3 o6 o7 := rfl

theorem st_text_reader_read_none_15b {R : Type} (K0 : Int → Int → Int → Int → (List Int) → Int → Int → Int → (List Int) → (List Int) → Option R) (K1 : Int → Int → Int → Int → (List Int) → Int → (List Int) → (List Int) → Option R) (fuel : Nat) (s : Int) (o0 : List Int) (o0_1 o1 o1_1 o1_2 o1_3 : Int) (o2 o3 : List Int) (o4 o4_1 o4_2 o4_3 : Int) (o5 o6 : List Int) : (run_text_reader_read_none K0 K1 (fuel + 1)).2.1 s o0 o0_1 o1 o1_1 o1_2 o1_3 o2 o3 o4 o4_1 o4_2 o4_3 o5 o6 = s_text_reader_read_none_15b (run_text_reader_read_none K0 K1 fuel).1 (run_text_reader_read_none K0 K1 fuel).2.1 (run_text_reader_read_none K0 K1 fuel).2.2.1 (run_text_reader_read_none K0 K1 fuel).2.2.2.1 (run_text_reader_read_none K0 K1 fuel).2.2.2.2.1 (run_text_reader_read_none K0 K1 fuel).2.2.2.2.2.1 (run_text_reader_read_none K0 K1 fuel).2.2.2.2.2.2.1 (run_text_reader_read_none K0 K1 fuel).2.2.2.2.2.2.2.1 (run_text_reader_read_none K0 K1 fuel).2.2.2.2.2.2.2.2.1 (run_text_reader_read_none K0 K1 fuel).2.2.2.2.2.2.2.2.2 K0 K1 s o0 o0_1 o1 o1_1 o1_2 o1_3 o2 o3 o4 o4_1 o4_2 o4_3 o5 o6 := rfl

theorem st_text_reader_read_none_19a {R : Type} (K0 : Int → Int → Int → Int → (List Int) → Int → Int → Int → (List Int) → (List Int) → Option R) (K1 : Int → Int → Int → Int → (List Int) → Int → (List Int) → (List Int) → Option R) (fuel : Nat) (s : Int) (o0 : List Int) (o0_1 o1 o1_1 o2 o2_1 o2_2 o2_3 : Int) (o3 o4 : List Int) (o5 o5_1 o5_2 o5_3 : Int) (o6 o7 : List Int) : (run_text_reader_read_none K0 K1 (fuel + 1)).2.2.1 s o0 o0_1 o1 o1_1 o2 o2_1 o2_2 o2_3 o3 o4 o5 o5_1 o5_2 o5_3 o6 o7 = s_text_reader_read_none_19a (run_text_reader_read_none K0 K1 fuel).1 (run_text_reader_read_none K0 K1 fuel).2.1 (run_text_reader_read_none K0 K1 fuel).2.2.1 (run_text_reader_read_none K0 K1 fuel).2.2.2.1 (run_text_reader_read_none K0 K1 fuel).2.2.2.2.1 (run_text_reader_read_none K0 K1 fuel).2.2.2.2.2.1 (run_text_reader_read_none K0 K1 fuel).2.2.2.2.2.2.1 (run_text_reader_read_none K0 K1 fuel).2.2.2.2.2.2.2.1 (run_text_reader_read_none K0 K1 fuel).2.2.2.2.2.2.2.2.1 (run_text_reader_read_none K0 K1 fuel).2.2.2.2.2.2.2.2.2 K0 K1 s o0 o0_1 o1 o1_1 o2 o2_1 o2_2 o2_3 o3 o4 o5 o5_1 o5_2 o5_3 o6 o7 := rfl

theorem st_text_reader_read_none_19b {R : Type} (K0 : Int → Int → Int → Int → (List Int) → Int → Int → Int → (List Int) → (List Int) → Option R) (K1 : Int → Int → Int → Int → (List Int) → Int → (List Int) → (List Int) → Option R) (fuel : Nat) (s : Int) (o0 : List Int) (o0_1 o1 o1_1 o1_2 o1_3 : Int) (o2 o3 : List Int) (o4 o4_1 o4_2 o4_3 : Int) (o5 o6 : List Int) : (run_text_reader_read_none K0 K1 (fuel + 1)).2.2.2.1 s o0 o0_1 o1 o1_1 o1_2 o1_3 o2 o3 o4 o4_1 o4_2 o4_3 o5 o6 = s_text_reader_read_none_19b (run_text_reader_read_none K0 K1 fuel).1 (run_text_reader_read_none K0 K1 fuel).2.1 (run_text_reader_read_none K0 K1 fuel).2.2.1 (run_text_reader_read_none K0 K1 fuel).2.2.2.1 (run_text_reader_read_none K0 K1 fuel).2.2.2.2.1 (run_text_reader_read_none K0 K1 fuel).2.2.2.2.2.1 (run_text_reader_read_none K0 K1 fuel).2.2.2.2.2.2.1 (run_text_reader_read_none K0 K1 fuel).2.2.2.2.2.2.2.1 (run_text_reader_read_none K0 K1 fuel).2.2.2.2.2.2.2.2.1 (run_text_reader_read_none K0 K1 fuel).2.2.2.2.2.2.2.2.2 K0 K1 s o0 o0_1 o1 o1_1 o1_2 o1_3 o2 o3 o4 o4_1 o4_2 o4_3 o5 o6 := rfl

theorem st_text_reader_read_none_20a {R : Type} (K0 : Int → Int → Int → Int → (List Int) → Int → Int → Int → (List Int) → (List Int) → Option R) (K1 : Int → Int → Int → Int → (List Int) → Int → (List Int) → (List Int) → Option R) (fuel : Nat) (s x : Int) (o0 : List Int) (o0_1 o1 o1_1 o2 o2_1 o2_2 o2_3 : Int) (o3 o4 : List Int) (o5 o5_1 o5_2 o5_3 : Int) (o6 o7 : List Int) : (run_text_reader_read_none K0 K1 (fuel + 1)).2.2.2.2.1 s x o0 o0_1 o1 o1_1 o2 o2_1 o2_2 o2_3 o3 o4 o5 o5_1 o5_2 o5_3 o6 o7 = s_text_reader_read_none_20a (run_text_reader_read_none K0 K1 fuel).1 (run_text_reader_read_none K0 K1 fuel).2.1 (run_text_reader_read_none K0 K1 fuel).2.2.1 (run_text_reader_read_none K0 K1 fuel).2.2.2.1 (run_text_reader_read_none K0 K1 fuel).2.2.2.2.1 (run_text_reader_read_none K0 K1 fuel).2.2.2.2.2.1 (run_text_reader_read_none K0 K1 fuel).2.2.2.2.2.2.1 (run_text_reader_read_none K0 K1 fuel).2.2.2.2.2.2.2.1 (run_text_reader_read_none K0 K1 fuel).2.2.2.2.2.2.2.2.1 (run_text_reader_read_none K0 K1 fuel).2.2.2.2.2.2.2.2.2 K0 K1 s x o0 o0_1 o1 o1_1 o2 o2_1 o2_2 o2_3 o3 o4 o5 o5_1 o5_2 o5_3 o6 o7 := rfl

theorem st_text_reader_read_none_20b {R : Type} (K0 : Int → Int → Int → Int → (List Int) → Int → Int → Int → (List Int) → (List Int) → Option R) (K1 : Int → Int → Int → Int → (List Int) → Int → (List Int) → (List Int) → Option R) (fuel : Nat) (s x : Int) (o0 : List Int) (o0_1 o1 o1_1 o1_2 o1_3 : Int) (o2 o3 : List Int) (o4 o4_1 o4_2 o4_3 : Int) (o5 o6 : List Int) : (run_text_reader_read_none K0 K1 (fuel + 1)).2.2.2.2.2.1 s x o0 o0_1 o1 o1_1 o1_2 o1_3 o2 o3 o4 o4_1 o4_2 o4_3 o5 o6 = s_text_reader_read_none_20b (run_text_reader_read_none K0 K1 fuel).1 (run_text_reader_read_none K0 K1 fuel).2.1 (run_text_reader_read_none K0 K1 fuel).2.2.1 (run_text_reader_read_none K0 K1 fuel).2.2.2.1 (run_text_reader_read_none K0 K1 fuel).2.2.2.2.1 (run_text_reader_read_none K0 K1 fuel).2.2.2.2.2.1 (run_text_reader_read_none K0 K1 fuel).2.2.2.2.2.2.1 (run_text_reader_read_none K0 K1 fuel).2.2.2.2.2.2.2.1 (run_text_reader_read_none K0 K1 fuel).2.2.2.2.2.2.2.2.1 (run_text_reader_read_none K0 K1 fuel).2.2.2.2.2.2.2.2.2 K0 K1 s x o0 o0_1 o1 o1_1 o1_2 o1_3 o2 o3 o4 o4_1 o4_2 o4_3 o5 o6 := rfl

theorem st_text_reader_read_none_25a {R : Type} (K0 : Int → Int → Int → Int → (List Int) → Int → Int → Int → (List Int) → (List Int) → Option R) (K1 : Int → Int → Int → Int → (List Int) → Int → (List Int) → (List Int) → Option R) (fuel : Nat) (s x : Int) (o0 : List Int) (o0_1 o1 o1_1 o2 o2_1 o2_2 o2_3 : Int) (o3 o4 : List Int) (o5 o5_1 o5_2 o5_3 : Int) (o6 o7 : List Int) : (run_text_reader_read_none K0 K1 (fuel + 1)).2.2.2.2.2.2.1 s x o0 o0_1 o1 o1_1 o2 o2_1 o2_2 o2_3 o3 o4 o5 o5_1 o5_2 o5_3 o6 o7 = s_text_reader_read_none_25a (run_text_reader_read_none K0 K1 fuel).1 (run_text_reader_read_none K0 K1 fuel).2.1 (run_text_reader_read_none K0 K1 fuel).2.2.1 (run_text_reader_read_none K0 K1 fuel).2.2.2.1 (run_text_reader_read_none K0 K1 fuel).2.2.2.2.1 (run_text_reader_read_none K0 K1 fuel).2.2.2.2.2.1 (run_text_reader_read_none K0 K1 fuel).2.2.2.2.2.2.1 (run_text_reader_read_none K0 K1 fuel).2.2.2.2.2.2.2.1 (run_text_reader_read_none K0 K1 fuel).2.2.2.2.2.2.2.2.1 (run_text_reader_read_none K0 K1 fuel).2.2.2.2.2.2.2.2.2 K0 K1 s x o0 o0_1 o1 o1_1 o2 o2_1 o2_2 o2_3 o3 o4 o5 o5_1 o5_2 o5_3 o6 o7 := rfl

theorem st_text_reader_read_none_25b {R : Type} (K0 : Int → Int → Int → Int → (List Int) → Int → Int → Int → (List Int) → (List Int) → Option R) (K1 : Int → Int → Int → Int → (List Int) → Int → (List Int) → (List Int) → Option R) (fuel : Nat) (s x : Int) (o0 : List Int) (o0_1 o1 o1_1 o1_2 o1_3 : Int) (o2 o3 : List Int) (o4 o4_1 o4_2 o4_3 : Int) (o5 o6 : List Int) : (run_text_reader_read_none K0 K1 (fuel + 1)).2.2.2.2.2.2.2.1 s x o0 o0_1 o1 o1_1 o1_2 o1_3 o2 o3 o4 o4_1 o4_2 o4_3 o5 o6 = s_text_reader_read_none_25b (run_text_reader_read_none K0 K1 fuel).1 (run_text_reader_read_none K0 K1 fuel).2.1 (run_text_reader_read_none K0 K1 fuel).2.2.1 (run_text_reader_read_none K0 K1 fuel).2.2.2.1 (run_text_reader_read_none K0 K1 fuel).2.2.2.2.1 (run_text_reader_read_none K0 K1 fuel).2.2.2.2.2.1 (run_text_reader_read_none K0 K1 fuel).2.2.2.2.2.2.1 (run_text_reader_read_none K0 K1 fuel).2.2.2.2.2.2.2.1 (run_text_reader_read_none K0 K1 fuel).2.2.2.2.2.2.2.2.1 (run_text_reader_read_none K0 K1 fuel).2.2.2.2.2.2.2.2.2 K0 K1 s x o0 o0_1 o1 o1_1 o1_2 o1_3 o2 o3 o4 o4_1 o4_2 o4_3 o5 o6 := rfl

theorem st_text_reader_read_none_21a {R : Type} (K0 : Int → Int → Int → Int → (List Int) → Int → Int → Int → (List Int) → (List Int) → Option R) (K1 : Int → Int → Int → Int → (List Int) → Int → (List Int) → (List Int) → Option R) (fuel : Nat) (s x : Int) (o0 : List Int) (o0_1 o1 o1_1 o2 o2_1 o2_2 o2_3 : Int) (o3 o4 : List Int) (o5 o5_1 o5_2 o5_3 : Int) (o6 o7 : List Int) : (run_text_reader_read_none K0 K1 (fuel + 1)).2.2.2.2.2.2.2.2.1 s x o0 o0_1 o1 o1_1 o2 o2_1 o2_2 o2_3 o3 o4 o5 o5_1 o5_2 o5_3 o6 o7 = s_text_reader_read_none_21a (run_text_reader_read_none K0 K1 fuel).1 (run_text_reader_read_none K0 K1 fuel).2.1 (run_text_reader_read_none K0 K1 fuel).2.2.1 (run_text_reader_read_none K0 K1 fuel).2.2.2.1 (run_text_reader_read_none K0 K1 fuel).2.2.2.2.1 (run_text_reader_read_none K0 K1 fuel).2.2.2.2.2.1 (run_text_reader_read_none K0 K1 fuel).2.2.2.2.2.2.1 (run_text_reader_read_none K0 K1 fuel).2.2.2.2.2.2.2.1 (run_text_reader_read_none K0 K1 fuel).2.2.2.2.2.2.2.2.1 (run_text_reader_read_none K0 K1 fuel).2.2.2.2.2.2.2.2.2 K0 K1 s x o0 o0_1 o1 o1_1 o2 o2_1 o2_2 o2_3 o3 o4 o5 o5_1 o5_2 o5_3 o6 o7 := rfl

theorem st_text_reader_read_none_21b {R : Type} (K0 : Int → Int → Int → Int → (List Int) → Int → Int → Int → (List Int) → (List Int) → Option R) (K1 : Int → Int → Int → Int → (List Int) → Int → (List Int) → (List Int) → Option R) (fuel : Nat) (s x : Int) (o0 : List Int) (o0_1 o1 o1_1 o1_2 o1_3 : Int) (o2 o3 : List Int) (o4 o4_1 o4_2 o4_3 : Int) (o5 o6 : List Int) : (run_text_reader_read_none K0 K1 (fuel + 1)).2.2.2.2.2.2.2.2.2 s x o0 o0_1 o1 o1_1 o1_2 o1_3 o2 o3 o4 o4_1 o4_2 o4_3 o5 o6 = s_text_reader_read_none_21b (run_text_reader_read_none K0 K1 fuel).1 (run_text_reader_read_none K0 K1 fuel).2.1 (run_text_reader_read_none K0 K1 fuel).2.2.1 (run_text_reader_read_none K0 K1 fuel).2.2.2.1 (run_text_reader_read_none K0 K1 fuel).2.2.2.2.1 (run_text_reader_read_none K0 K1 fuel).2.2.2.2.2.1 (run_text_reader_read_none K0 K1 fuel).2.2.2.2.2.2.1 (run_text_reader_read_none K0 K1 fuel).2.2.2.2.2.2.2.1 (run_text_reader_read_none K0 K1 fuel).2.2.2.2.2.2.2.2.1 (run_text_reader_read_none K0 K1 fuel).2.2.2.2.2.2.2.2.2 K0 K1 s x o0 o0_1 o1 o1_1 o1_2 o1_3 o2 o3 o4 o4_1 o4_2 o4_3 o5 o6 := rfl

section reading
variable {R : Type} {G : Int → Int → Option R} {K1 : Int → Int → Int → Int → List Int → Int → List Int → List Int → Option R}

abbrev RF {R : Type} (G : Int → Int → Option R) (K1 : Int → Int → Int → Int → List Int → Int → List Int → List Int → Option R) (m : Nat) := run_text_reader_read_none (fun _ _ _ _ _ _ k p _ _ => G k p) K1 m

theorem f15 {s : Int} {o0 : List Int} {a k p z1 z2 z3 z4 : Int} {zn zo : List Int} {c1 c2 c3 c4 : Int} {nx ou : List Int} :
    Reach (fun m => (RF G K1 m).1 s o0 a k p z1 z2 z3 z4 zn zo c1 c2 c3 c4 nx ou) (G k p) := by
  refine .now fun m => ?_
  rw [st_text_reader_read_none_15a]
  unfold s_text_reader_read_none_15a
  exact br_same _

theorem f20 {s x : Int} {o0 : List Int} {a k p z1 z2 z3 z4 : Int} {zn zo : List Int} {c1 c2 c3 c4 : Int} {nx ou : List Int} :
    Reach (fun m => (RF G K1 m).2.2.2.2.1 s x o0 a k p z1 z2 z3 z4 zn zo c1 c2 c3 c4 nx ou) (G k p) := by
  apply Reach.step (k := f15)
  intro m
  rw [st_text_reader_read_none_20a]
  unfold s_text_reader_read_none_20a
  simp only [wantf_eq]
  exact br_same _

theorem f21 {s x : Int} {o0 : List Int} {a k p z1 z2 z3 z4 : Int} {zn zo : List Int} {c1 c2 c3 c4 : Int} {nx ou : List Int} :
    Reach (fun m => (RF G K1 m).2.2.2.2.2.2.2.2.1 s x o0 a k p z1 z2 z3 z4 zn zo c1 c2 c3 c4 nx ou) (G k p) := by
  apply Reach.step (k := f20)
  intro m
  rw [st_text_reader_read_none_21a]
  unfold s_text_reader_read_none_21a
  rfl

theorem f25 {s x : Int} {o0 : List Int} {a k p z1 z2 z3 z4 : Int} {zn zo : List Int} {c1 c2 c3 c4 : Int} {nx ou : List Int} (ho : ou.length ≤ 17000000) :
    Reach (fun m => (RF G K1 m).2.2.2.2.2.2.1 s x o0 a k p z1 z2 z3 z4 zn zo c1 c2 c3 c4 nx ou) (G k p) := by
  by_cases hc : c1 = 2
  · apply Reach.step (k := f21)
    intro m
    rw [st_text_reader_read_none_25a]
    unfold s_text_reader_read_none_25a
    simp only [wantf_eq, numf_eq, twice_eq, both_same]
    rw [br_eq hc, br_pos (by simp [lim]; omega)]
  · apply Reach.step (k := f21)
    intro m
    rw [st_text_reader_read_none_25a]
    unfold s_text_reader_read_none_25a
    rw [br_eq' hc]

theorem f19 {s : Int} {o0 : List Int} {a k p z1 z2 z3 z4 : Int} {zn zo : List Int} {c1 c2 c3 c4 : Int} {nx ou : List Int} :
    Reach (fun m => (RF G K1 m).2.2.1 s o0 a k p z1 z2 z3 z4 zn zo c1 c2 c3 c4 nx ou) (G k p) := by
  apply Reach.step (k := f20)
  intro m
  rw [st_text_reader_read_none_19a]
  unfold s_text_reader_read_none_19a
  rfl

variable {b : List Int} (hb : b.length ≤ 16777216) {z1 z2 z3 z4 : Int} {zn zo : List Int} {k K O N : Int}

include hb in
theorem sh : short b := by unfold short; omega

include hb

/-- Behind the first number of a cell. -/
theorem cell_rest {s x a : Nat} {nx ou : List Int} {F : Nat × List Int × List Int → Rd (Int × Int × Int × Int × List Int × List Int)} {J : Int × Int × Int × Int × List Int × List Int → Option R} (ha : a ≤ b.length) (hn : nx.length ≤ a) (ho : ou.length ≤ a) (hO : 1 ≤ O ∧ O ≤ 64) (hx : x < 70000)
    (next : ∀ a' ou', a' ≤ b.length → nx.length ≤ a' → ou'.length ≤ a' → Reach (fun m => (RF G K1 m).2.2.2.2.2.1 (s : Int) ((x + 1 : Nat) : Int) b (a' : Int) z1 z2 z3 z4 zn zo k K O N nx ou') (outR G J (F (a', nx, ou')))) :
    Reach (fun m => (RF G K1 m).2.2.2.2.2.2.2.1 (s : Int) (x : Int) b (a : Int) z1 z2 z3 z4 zn zo k K O N nx ou)
      (outR G J (bindR (if k = 2 then bindR (wantS [47] b a) fun a2 => bindR (numbS 0 (O - 1) 33 b a2) fun p => .inr (p.2, nx, ou ++ [p.1]) else .inr (a, nx, ou)) F)) := by
  have go : ∀ a' ou', a' ≤ b.length → nx.length ≤ a' → ou'.length ≤ a' → Reach (fun m => (RF G K1 m).2.2.2.2.2.2.2.2.2 (s : Int) (x : Int) b (a' : Int) z1 z2 z3 z4 zn zo k K O N nx ou') (outR G J (F (a', nx, ou'))) := by
    intro a' ou' h1 h2 h3
    refine .step (fun m => ?_) (next a' ou' h1 h2 h3)
    rw [st_text_reader_read_none_21b]
    unfold s_text_reader_read_none_21b
    rw [wr ((x : Int) + 1) (by omega) (by omega)]
    rfl
  by_cases hk : k = 2
  · rw [if_pos hk]
    cases hw : wantS [47] b a with
    | inl e =>
      apply Reach.step (k := f21)
      intro m
      rw [st_text_reader_read_none_25b]
      unfold s_text_reader_read_none_25b
      simp only [twice_eq, both_same]
      rw [br_eq hk, want_bad (s := ByteArray.mk #[47]) (sh hb) (by decide) ha hw]
      simp only [numf_eq]
      rw [br_pos (by simp [lim]; omega)]
    | inr a2 =>
      have ha2 := wantS_le hw ha
      have la2 := (wantS_ok hw).1
      simp only [bindR]
      cases hq : numbS 0 (O - 1) 33 b a2 with
      | inl e =>
        apply Reach.step (k := f21)
        intro m
        rw [st_text_reader_read_none_25b]
        unfold s_text_reader_read_none_25b
        simp only [twice_eq, both_same]
        rw [br_eq hk, want_ok (s := ByteArray.mk #[47]) (sh hb) (by decide) ha hw, wr (O - 1) (by omega) (by omega), num_bad (sh hb) ha2 hq]
        rw [br_pos (by simp [lim]; omega)]
      | inr p =>
        have hp := numbS_le hq ha2
        have lp := numbS_lt hq
        simp only [List.length_cons, List.length_nil] at la2
        refine .step (fun m => ?_) (go p.2 (ou ++ [p.1]) hp (by omega) (by simp; omega))
        rw [st_text_reader_read_none_25b]
        unfold s_text_reader_read_none_25b
        simp only [twice_eq, both_same]
        rw [br_eq hk, want_ok (s := ByteArray.mk #[47]) (sh hb) (by decide) ha hw, wr (O - 1) (by omega) (by omega), num_ok (sh hb) ha2 hq]
        rw [br_pos (by simp [lim]; omega)]
  · rw [if_neg hk]
    refine .step (fun m => ?_) (go a ou ha hn ho)
    rw [st_text_reader_read_none_25b]
    unfold s_text_reader_read_none_25b
    rw [br_eq' hk]

/-- From a cell's first number on. -/
theorem cell_num {s x a : Nat} {nx ou : List Int} {F : Nat × List Int × List Int → Rd (Int × Int × Int × Int × List Int × List Int)} {J : Int × Int × Int × Int × List Int × List Int → Option R} (ha : a ≤ b.length) (hn : nx.length ≤ a) (ho : ou.length ≤ a) (hO : 1 ≤ O ∧ O ≤ 64) (hN : 1 ≤ N ∧ N ≤ 1024) (hx : x < 70000)
    (next : ∀ a' nx' ou', a' ≤ b.length → nx'.length ≤ a' → ou'.length ≤ a' → Reach (fun m => (RF G K1 m).2.2.2.2.2.1 (s : Int) ((x + 1 : Nat) : Int) b (a' : Int) z1 z2 z3 z4 zn zo k K O N nx' ou') (outR G J (F (a', nx', ou')))) :
    Reach (fun m => l_text_reader_number_none 0 (IntKind.i64.wrap (N - 1)) 32 b (a : Int)
        (fun n b' i kk p => bi (decide ((nx.length + [n].length) * 8 ≤ lim)) ((RF G K1 m).2.2.2.2.2.2.1 (s : Int) (x : Int) b' i kk p z1 z2 z3 z4 zn zo k K O N (nx ++ [n]) ou) none)
        (fun n b' i => bi (decide ((nx.length + [n].length) * 8 ≤ lim)) ((RF G K1 m).2.2.2.2.2.2.2.1 (s : Int) (x : Int) b' i z1 z2 z3 z4 zn zo k K O N (nx ++ [n]) ou) none))
      (outR G J (bindR (bindR (numbS 0 (N - 1) 32 b a) fun q => if k = 2 then bindR (wantS [47] b q.2) fun a2 => bindR (numbS 0 (O - 1) 33 b a2) fun p => .inr (p.2, nx ++ [q.1], ou ++ [p.1]) else .inr (q.2, nx ++ [q.1], ou)) F)) := by
  cases hq : numbS 0 (N - 1) 32 b a with
  | inl e =>
    apply Reach.same (k := f25 (K1 := K1) (ou := ou) (by omega))
    intro m
    rw [wr (N - 1) (by omega) (by omega), num_bad (sh hb) ha hq, br_pos (by simp [lim]; omega)]
  | inr q =>
    have hp := numbS_le hq ha
    have lp := numbS_lt hq
    simp only [bindR_inr]
    refine .same (fun m => ?_) (cell_rest hb (a := q.2) (nx := nx ++ [q.1]) (ou := ou) hp (by simp; omega) (by omega) hO hx fun a' ou' h1 h2 h3 => next a' (nx ++ [q.1]) ou' h1 h2 h3)
    rw [wr (N - 1) (by omega) (by omega), num_ok (sh hb) ha hq, br_pos (by simp [lim]; omega)]

theorem cells_run {s : Nat} {F : Nat × List Int × List Int → Rd (Int × Int × Int × Int × List Int × List Int)} {J : Int × Int × Int × Int × List Int × List Int → Option R} (hK : 1 ≤ K ∧ K ≤ 64) (hO : 1 ≤ O ∧ O ≤ 64) (hN : 1 ≤ N ∧ N ≤ 1024)
    (next : ∀ a' nx' ou', a' ≤ b.length → nx'.length ≤ a' → ou'.length ≤ a' → Reach (fun m => (RF G K1 m).2.2.2.2.2.1 (s : Int) K b (a' : Int) z1 z2 z3 z4 zn zo k K O N nx' ou') (outR G J (F (a', nx', ou')))) :
    ∀ (d x a : Nat) (nx ou : List Int), x + d = K.toNat → a ≤ b.length → nx.length ≤ a → ou.length ≤ a →
      Reach (fun m => (RF G K1 m).2.2.2.2.2.1 (s : Int) (x : Int) b (a : Int) z1 z2 z3 z4 zn zo k K O N nx ou) (outR G J (bindR (cellsS k O N b d x a nx ou) F))
  | 0, x, a, nx, ou, hd, ha, hn, ho => by
    have e : (x : Int) = K := by omega
    rw [e]
    exact next a nx ou ha hn ho
  | d + 1, x, a, nx, ou, hd, ha, hn, ho => by
    have hxK : (x : Int) < K := by omega
    have ih := fun a' nx' ou' h1 h2 h3 => cells_run hK hO hN next d (x + 1) a' nx' ou' (by omega) h1 h2 h3
    have eF : bindR (cellsS k O N b (d + 1) x a nx ou) F = bindR (cellS k O N b x a nx ou) fun q => bindR (cellsS k O N b d (x + 1) q.1 q.2.1 q.2.2) F := by
      simp only [cellsS]
      cases cellS k O N b x a nx ou <;> rfl
    rw [eF]
    have body := fun a' nx' ou' h1 h2 h3 => cell_num hb (G := G) (K1 := K1) (z1 := z1) (z2 := z2) (z3 := z3) (z4 := z4) (zn := zn) (zo := zo) (k := k) (K := K) (s := s) (x := x) (a := a') (nx := nx') (ou := ou') (F := fun q => bindR (cellsS k O N b d (x + 1) q.1 q.2.1 q.2.2) F) (J := J) h1 h2 h3 hO hN (by omega) ih
    have eC : ∀ y : Rd Nat, bindR (bindR y fun a1 => bindR (numbS 0 (N - 1) 32 b a1) fun q => if k = 2 then bindR (wantS [47] b q.2) fun a2 => bindR (numbS 0 (O - 1) 33 b a2) fun p => .inr (p.2, nx ++ [q.1], ou ++ [p.1]) else .inr (q.2, nx ++ [q.1], ou)) (fun q => bindR (cellsS k O N b d (x + 1) q.1 q.2.1 q.2.2) F) =
        bindR y fun a1 => bindR (bindR (numbS 0 (N - 1) 32 b a1) fun q => if k = 2 then bindR (wantS [47] b q.2) fun a2 => bindR (numbS 0 (O - 1) 33 b a2) fun p => .inr (p.2, nx ++ [q.1], ou ++ [p.1]) else .inr (q.2, nx ++ [q.1], ou)) (fun q => bindR (cellsS k O N b d (x + 1) q.1 q.2.1 q.2.2) F) := by
      intro y
      cases y <;> rfl
    unfold cellS
    rw [eC]
    have wanted : (0 < x ∨ k = 1) → ∀ (g : Nat → Option R) , (∀ m, g (m + 1) = l_text_reader_want_none (ByteArray.mk #[32]) b (a : Int)
        (fun r314 r315 r316 r317 => bi (decide ((nx.length + [(0 : Int)].length) * 8 ≤ lim)) ((RF G K1 m).2.2.2.2.2.2.1 (s : Int) (x : Int) r314 r315 r316 r317 z1 z2 z3 z4 zn zo k K O N (nx ++ [0]) ou) none)
        (fun r323 r324 => l_text_reader_number_none 0 (IntKind.i64.wrap (N - 1)) 32 r323 r324
          (fun n b' i kk p => bi (decide ((nx.length + [n].length) * 8 ≤ lim)) ((RF G K1 m).2.2.2.2.2.2.1 (s : Int) (x : Int) b' i kk p z1 z2 z3 z4 zn zo k K O N (nx ++ [n]) ou) none)
          (fun n b' i => bi (decide ((nx.length + [n].length) * 8 ≤ lim)) ((RF G K1 m).2.2.2.2.2.2.2.1 (s : Int) (x : Int) b' i z1 z2 z3 z4 zn zo k K O N (nx ++ [n]) ou) none))) →
        Reach g (outR G J (bindR (wantS [32] b a) fun a1 => bindR (bindR (numbS 0 (N - 1) 32 b a1) fun q => if k = 2 then bindR (wantS [47] b q.2) fun a2 => bindR (numbS 0 (O - 1) 33 b a2) fun p => .inr (p.2, nx ++ [q.1], ou ++ [p.1]) else .inr (q.2, nx ++ [q.1], ou)) (fun q => bindR (cellsS k O N b d (x + 1) q.1 q.2.1 q.2.2) F))) := by
      intro _ g hg
      cases hw : wantS [32] b a with
      | inl e =>
        apply Reach.step (k := f25 (K1 := K1) (ou := ou) (by omega))
        intro m
        rw [hg, want_bad (s := ByteArray.mk #[32]) (sh hb) (by decide) ha hw, br_pos (by simp [lim]; omega)]
      | inr a2 =>
        have ha2 := wantS_le hw ha
        have la2 := (wantS_ok hw).1
        simp only [List.length_cons, List.length_nil] at la2
        refine .step (fun m => ?_) (body a2 nx ou ha2 (by omega) (by omega))
        rw [hg, want_ok (s := ByteArray.mk #[32]) (sh hb) (by decide) ha hw]
    by_cases hx0 : 0 < x
    · rw [if_pos (.inl hx0)]
      refine wanted (.inl hx0) _ fun m => ?_
      rw [st_text_reader_read_none_20b]
      unfold s_text_reader_read_none_20b
      simp only [twice_eq, both_same, numf_eq]
      rw [br_pos hxK, br_pos (by omega)]
    · by_cases hk : k = 1
      · rw [if_pos (.inr hk)]
        refine wanted (.inr hk) _ fun m => ?_
        rw [st_text_reader_read_none_20b]
        unfold s_text_reader_read_none_20b
        simp only [twice_eq, both_same, numf_eq]
        rw [br_pos hxK, br_neg (by omega), br_eq hk]
      · rw [if_neg (by omega)]
        refine .step (fun m => ?_) (body a nx ou ha hn ho)
        rw [st_text_reader_read_none_20b]
        unfold s_text_reader_read_none_20b
        simp only [twice_eq, both_same, numf_eq]
        rw [br_pos hxK, br_neg (by omega), br_eq' hk]

omit hb in
theorem bindR_assoc {α β γ : Type} (x : Rd α) (f : α → Rd β) (g : β → Rd γ) : bindR (bindR x f) g = bindR x fun a => bindR (f a) g := by
  cases x <;> rfl

/-- What is said of a text that was read to its end. -/
def endI (k K O N : Int) (b : List Int) (q : Nat × List Int × List Int) : Rd (Int × Int × Int × Int × List Int × List Int) :=
  if q.1 < b.length then .inl (6, (q.1 : Int)) else .inr (k, K, O, N, q.2.1, q.2.2)

theorem rows_run (hK : 1 ≤ K ∧ K ≤ 64) (hO : 1 ≤ O ∧ O ≤ 64) (hN : 1 ≤ N ∧ N ≤ 1024) :
    ∀ (d s a : Nat) (nx ou : List Int), s + d = N.toNat → a ≤ b.length → nx.length ≤ a → ou.length ≤ a →
      Reach (fun m => (RF G K1 m).2.1 (s : Int) b (a : Int) z1 z2 z3 z4 zn zo k K O N nx ou) (outR G (fun m => K1 m.1 m.2.1 m.2.2.1 m.2.2.2.1 b (b.length : Int) m.2.2.2.2.1 m.2.2.2.2.2) (bindR (rowsS k K O N b d a nx ou) (endI k K O N b)))
  | 0, s, a, nx, ou, hd, ha, hn, ho => by
    refine .now fun m => ?_
    rw [st_text_reader_read_none_15b]
    unfold s_text_reader_read_none_15b
    rw [br_neg (by omega)]
    simp only [rowsS, bindR_inr, endI]
    by_cases h : a < b.length
    · rw [br_pos (by omega), if_pos h]
      rfl
    · have e : a = b.length := by omega
      rw [br_neg (by omega), if_neg h, e]
      rfl
  | d + 1, s, a, nx, ou, hd, ha, hn, ho => by
    have hsN : (s : Int) < N := by omega
    have ih := fun a' nx' ou' h1 h2 h3 => rows_run hK hO hN d (s + 1) a' nx' ou' (by omega) h1 h2 h3
    simp only [rowsS, rowS, bindR_assoc, bindR_inr]
    have tail : ∀ a' nx' ou', a' ≤ b.length → nx'.length ≤ a' → ou'.length ≤ a' → Reach (fun m => (RF G K1 m).2.2.2.1 (s : Int) b (a' : Int) z1 z2 z3 z4 zn zo k K O N nx' ou')
        (outR G (fun m => K1 m.1 m.2.1 m.2.2.1 m.2.2.2.1 b (b.length : Int) m.2.2.2.2.1 m.2.2.2.2.2) (bindR (cellsS k O N b K.toNat 0 a' nx' ou') fun q => bindR (wantS [10] b q.1) fun a2 => bindR (rowsS k K O N b d a2 q.2.1 q.2.2) (endI k K O N b))) := by
      intro a' nx' ou' h1 h2 h3
      refine .step (fun m => ?_) (cells_run hb (K1 := K1) (z1 := z1) (z2 := z2) (z3 := z3) (z4 := z4) (zn := zn) (zo := zo) (s := s) hK hO hN ?_ K.toNat 0 a' nx' ou' (by omega) h1 h2 h3)
      · rw [st_text_reader_read_none_19b]
        unfold s_text_reader_read_none_19b
        rfl
      · intro a2 nx2 ou2 g1 g2 g3
        cases hw : wantS [10] b a2 with
        | inl e =>
          apply Reach.step (k := f15 (K1 := K1))
          intro m
          rw [st_text_reader_read_none_20b]
          unfold s_text_reader_read_none_20b
          rw [br_neg (by omega), want_bad (s := ByteArray.mk #[10]) (sh hb) (by decide) g1 hw]
        | inr a3 =>
          have ha3 := wantS_le hw g1
          have la3 := (wantS_ok hw).1
          refine .step (fun m => ?_) (ih a3 nx2 ou2 ha3 (by omega) (by omega))
          rw [st_text_reader_read_none_20b]
          unfold s_text_reader_read_none_20b
          rw [br_neg (by omega), want_ok (s := ByteArray.mk #[10]) (sh hb) (by decide) g1 hw, wr ((s : Int) + 1) (by omega) (by omega)]
          rfl
    unfold leadS
    by_cases hk : k = 1
    · rw [if_pos hk]
      cases hq : numbS 0 1 33 b a with
      | inl e =>
        apply Reach.step (k := f19 (K1 := K1))
        intro m
        rw [st_text_reader_read_none_15b]
        unfold s_text_reader_read_none_15b
        simp only [twice_eq, both_same]
        rw [br_pos hsN, br_eq hk, num_bad (sh hb) ha hq, br_pos (by simp [lim]; omega)]
      | inr q =>
        have hp := numbS_le hq ha
        have lp := numbS_lt hq
        simp only [bindR_inr]
        refine .step (fun m => ?_) (tail q.2 nx (ou ++ [q.1]) hp (by omega) (by simp; omega))
        rw [st_text_reader_read_none_15b]
        unfold s_text_reader_read_none_15b
        simp only [twice_eq, both_same]
        rw [br_pos hsN, br_eq hk, num_ok (sh hb) ha hq, br_pos (by simp [lim]; omega)]
    · rw [if_neg hk]
      simp only [bindR_inr]
      refine .step (fun m => ?_) (tail a nx ou ha hn ho)
      rw [st_text_reader_read_none_15b]
      unfold s_text_reader_read_none_15b
      rw [br_pos hsN, br_eq' hk]

theorem read_eq : l_text_reader_read_none b 0 (fun _ _ _ _ _ _ k p _ _ => G k p) K1 = outR G (fun m => K1 m.1 m.2.1 m.2.2.1 m.2.2.2.1 b (b.length : Int) m.2.2.2.2.1 m.2.2.2.2.2) (readS b) := by
  have hs := sh hb
  refine evl_eq ?_
  have eR : readS b = bindR (headI b) fun h => bindR (rowsS h.1 h.2.1 h.2.2.1 h.2.2.2.1 b h.2.2.2.1.toNat h.2.2.2.2 [] []) (endI h.1 h.2.1 h.2.2.1 h.2.2.2.1 b) := rfl
  rw [eR]
  unfold headI
  have dfa : Reach (fun m => l_text_reader_want_none (ByteArray.mk #[100, 102, 97, 32]) b 0
      (fun r220 r221 r222 r223 => (RF G K1 m).1 0 r220 r221 r222 r223 0 0 0 0 [] [] 1 0 2 0 [] [])
      (fun r242 r243 => l_text_reader_number_none 1 64 1 r242 r243
        (fun r244 r245 r246 r247 r248 => (RF G K1 m).1 0 r245 r246 r247 r248 0 0 0 0 [] [] 1 r244 2 0 [] [])
        (fun r262 r263 r264 => l_text_reader_want_none (ByteArray.mk #[32]) r263 r264
          (fun r265 r266 r267 r268 => (RF G K1 m).1 0 r265 r266 r267 r268 0 0 0 0 [] [] 1 r262 2 0 [] [])
          (fun r278 r279 => l_text_reader_number_none 1 1024 3 r278 r279
            (fun r280 r281 r282 r283 r284 => (RF G K1 m).1 0 r281 r282 r283 r284 0 0 0 0 [] [] 1 r262 2 r280 [] [])
            (fun r289 r290 r291 => l_text_reader_want_none (ByteArray.mk #[10]) r290 r291
              (fun r292 r293 r294 r295 => (RF G K1 m).1 0 r292 r293 r294 r295 0 0 0 0 [] [] 1 r262 2 r289 [] [])
              (fun r296 r297 => (RF G K1 m).2.1 0 r296 r297 0 0 0 0 [] [] 1 r262 2 r289 [] []))))))
      (outR G (fun m => K1 m.1 m.2.1 m.2.2.1 m.2.2.2.1 b (b.length : Int) m.2.2.2.2.1 m.2.2.2.2.2) (bindR (bindR (wantS [100, 102, 97, 32] b 0) fun a0 => bindR (numbS 1 64 1 b a0) fun q1 => bindR (wantS [32] b q1.2) fun a1 =>
        bindR (numbS 1 1024 3 b a1) fun q3 => bindR (wantS [10] b q3.2) fun a3 => .inr (1, q1.1, 2, q3.1, a3)) fun h => bindR (rowsS h.1 h.2.1 h.2.2.1 h.2.2.2.1 b h.2.2.2.1.toNat h.2.2.2.2 [] []) (endI h.1 h.2.1 h.2.2.1 h.2.2.2.1 b))) := by
    cases w0 : wantS [100, 102, 97, 32] b 0 with
    | inl e =>
      apply Reach.same (k := f15 (K1 := K1)); intro m
      exact want_bad (s := ByteArray.mk #[100, 102, 97, 32]) hs (by decide) (Nat.zero_le _) w0 _ _
    | inr a0 =>
      have g0 := wantS_le w0 (Nat.zero_le _)
      have W0 := fun {R : Type} K0 K1 => want_ok (R := R) (s := ByteArray.mk #[100, 102, 97, 32]) hs (by decide) (Nat.zero_le _) w0 K0 K1
      simp only [bindR_inr]
      cases n1 : numbS 1 64 1 b a0 with
      | inl e =>
        apply Reach.same (k := f15 (K1 := K1)); intro m
        exact (W0 _ _).trans (num_bad hs g0 n1 _ _)
      | inr q1 =>
        have g1 := numbS_le n1 g0
        simp only [bindR_inr]
        cases w1 : wantS [32] b q1.2 with
        | inl e =>
          apply Reach.same (k := f15 (K1 := K1)); intro m
          exact (W0 _ _).trans ((num_ok hs g0 n1 _ _).trans (want_bad (s := ByteArray.mk #[32]) hs (by decide) g1 w1 _ _))
        | inr a1 =>
          have g2 := wantS_le w1 g1
          simp only [bindR_inr]
          cases n3 : numbS 1 1024 3 b a1 with
          | inl e =>
            apply Reach.same (k := f15 (K1 := K1)); intro m
            exact (W0 _ _).trans ((num_ok hs g0 n1 _ _).trans ((want_ok (s := ByteArray.mk #[32]) hs (by decide) g1 w1 _ _).trans (num_bad hs g2 n3 _ _)))
          | inr q3 =>
            have g3 := numbS_le n3 g2
            simp only [bindR_inr]
            cases w3 : wantS [10] b q3.2 with
            | inl e =>
              apply Reach.same (k := f15 (K1 := K1)); intro m
              exact (W0 _ _).trans ((num_ok hs g0 n1 _ _).trans ((want_ok (s := ByteArray.mk #[32]) hs (by decide) g1 w1 _ _).trans ((num_ok hs g2 n3 _ _).trans (want_bad (s := ByteArray.mk #[10]) hs (by decide) g3 w3 _ _))))
            | inr a3 =>
              have g4 := wantS_le w3 g3
              simp only [bindR_inr]
              obtain ⟨_, _, k1, k2⟩ := numbS_ok n1
              obtain ⟨_, _, k3, k4⟩ := numbS_ok n3
              refine .same (fun m => ?_) (rows_run hb (z1 := 0) (z2 := 0) (z3 := 0) (z4 := 0) (zn := []) (zo := []) (k := 1) (K := q1.1) (O := 2) (N := q3.1) ⟨k1, k2⟩ ⟨by omega, by omega⟩ ⟨k3, k4⟩ q3.1.toNat 0 a3 [] [] (by omega) g4 (by simp) (by simp))
              exact (W0 _ _).trans ((num_ok hs g0 n1 _ _).trans ((want_ok (s := ByteArray.mk #[32]) hs (by decide) g1 w1 _ _).trans ((num_ok hs g2 n3 _ _).trans (want_ok (s := ByteArray.mk #[10]) hs (by decide) g3 w3 _ _))))
  by_cases h0 : b[0]? = some 109
  · rw [if_pos h0]
    have hlt : 0 < b.length := (List.getElem?_eq_some_iff.1 h0).1
    have e0 : b.getD 0 0 = 109 := by rw [List.getD_eq_getElem?_getD, h0]; rfl
    cases w0 : wantS [109, 101, 97, 108, 121, 32] b 0 with
    | inl e =>
      apply Reach.same (k := f15 (K1 := K1)); intro m
      unfold e_text_reader_read_none
      simp only [wantf_eq, numf_eq]
      rw [br_pos (by omega), br_pos (by omega), br_eq e0]
      exact want_bad (s := ByteArray.mk #[109, 101, 97, 108, 121, 32]) hs (by decide) (Nat.zero_le _) w0 _ _
    | inr a0 =>
      have g0 := wantS_le w0 (Nat.zero_le _)
      have W0 := fun {R : Type} K0 K1 => want_ok (R := R) (s := ByteArray.mk #[109, 101, 97, 108, 121, 32]) hs (by decide) (Nat.zero_le _) w0 K0 K1
      simp only [bindR_inr]
      cases n1 : numbS 1 64 1 b a0 with
      | inl e =>
        apply Reach.same (k := f15 (K1 := K1)); intro m
        unfold e_text_reader_read_none
        simp only [wantf_eq, numf_eq]
        rw [br_pos (by omega), br_pos (by omega), br_eq e0]
        exact (W0 _ _).trans (num_bad hs g0 n1 _ _)
      | inr q1 =>
        have g1 := numbS_le n1 g0
        simp only [bindR_inr]
        cases w1 : wantS [32] b q1.2 with
        | inl e =>
          apply Reach.same (k := f15 (K1 := K1)); intro m
          unfold e_text_reader_read_none
          simp only [wantf_eq, numf_eq]
          rw [br_pos (by omega), br_pos (by omega), br_eq e0]
          exact (W0 _ _).trans ((num_ok hs g0 n1 _ _).trans (want_bad (s := ByteArray.mk #[32]) hs (by decide) g1 w1 _ _))
        | inr a1 =>
          have g2 := wantS_le w1 g1
          simp only [bindR_inr]
          cases n2 : numbS 1 64 33 b a1 with
          | inl e =>
            apply Reach.same (k := f15 (K1 := K1)); intro m
            unfold e_text_reader_read_none
            simp only [wantf_eq, numf_eq]
            rw [br_pos (by omega), br_pos (by omega), br_eq e0]
            exact (W0 _ _).trans ((num_ok hs g0 n1 _ _).trans ((want_ok (s := ByteArray.mk #[32]) hs (by decide) g1 w1 _ _).trans (num_bad hs g2 n2 _ _)))
          | inr q2 =>
            have g3 := numbS_le n2 g2
            simp only [bindR_inr]
            cases w2 : wantS [32] b q2.2 with
            | inl e =>
              apply Reach.same (k := f15 (K1 := K1)); intro m
              unfold e_text_reader_read_none
              simp only [wantf_eq, numf_eq]
              rw [br_pos (by omega), br_pos (by omega), br_eq e0]
              exact (W0 _ _).trans ((num_ok hs g0 n1 _ _).trans ((want_ok (s := ByteArray.mk #[32]) hs (by decide) g1 w1 _ _).trans ((num_ok hs g2 n2 _ _).trans (want_bad (s := ByteArray.mk #[32]) hs (by decide) g3 w2 _ _))))
            | inr a2 =>
              have g4 := wantS_le w2 g3
              simp only [bindR_inr]
              cases n3 : numbS 1 1024 3 b a2 with
              | inl e =>
                apply Reach.same (k := f15 (K1 := K1)); intro m
                unfold e_text_reader_read_none
                simp only [wantf_eq, numf_eq]
                rw [br_pos (by omega), br_pos (by omega), br_eq e0]
                exact (W0 _ _).trans ((num_ok hs g0 n1 _ _).trans ((want_ok (s := ByteArray.mk #[32]) hs (by decide) g1 w1 _ _).trans ((num_ok hs g2 n2 _ _).trans ((want_ok (s := ByteArray.mk #[32]) hs (by decide) g3 w2 _ _).trans (num_bad hs g4 n3 _ _)))))
              | inr q3 =>
                have g5 := numbS_le n3 g4
                simp only [bindR_inr]
                cases w3 : wantS [10] b q3.2 with
                | inl e =>
                  apply Reach.same (k := f15 (K1 := K1)); intro m
                  unfold e_text_reader_read_none
                  simp only [wantf_eq, numf_eq]
                  rw [br_pos (by omega), br_pos (by omega), br_eq e0]
                  exact (W0 _ _).trans ((num_ok hs g0 n1 _ _).trans ((want_ok (s := ByteArray.mk #[32]) hs (by decide) g1 w1 _ _).trans ((num_ok hs g2 n2 _ _).trans ((want_ok (s := ByteArray.mk #[32]) hs (by decide) g3 w2 _ _).trans ((num_ok hs g4 n3 _ _).trans (want_bad (s := ByteArray.mk #[10]) hs (by decide) g5 w3 _ _))))))
                | inr a3 =>
                  have g6 := wantS_le w3 g5
                  simp only [bindR_inr]
                  obtain ⟨_, _, k1, k2⟩ := numbS_ok n1
                  obtain ⟨_, _, k3, k4⟩ := numbS_ok n2
                  obtain ⟨_, _, k5, k6⟩ := numbS_ok n3
                  refine .same (fun m => ?_) (rows_run hb (z1 := 0) (z2 := 0) (z3 := 0) (z4 := 0) (zn := []) (zo := []) (k := 2) (K := q1.1) (O := q2.1) (N := q3.1) ⟨k1, k2⟩ ⟨k3, k4⟩ ⟨k5, k6⟩ q3.1.toNat 0 a3 [] [] (by omega) g6 (by simp) (by simp))
                  unfold e_text_reader_read_none
                  simp only [wantf_eq, numf_eq]
                  rw [br_pos (by omega), br_pos (by omega), br_eq e0]
                  exact (W0 _ _).trans ((num_ok hs g0 n1 _ _).trans ((want_ok (s := ByteArray.mk #[32]) hs (by decide) g1 w1 _ _).trans ((num_ok hs g2 n2 _ _).trans ((want_ok (s := ByteArray.mk #[32]) hs (by decide) g3 w2 _ _).trans ((num_ok hs g4 n3 _ _).trans (want_ok (s := ByteArray.mk #[10]) hs (by decide) g5 w3 _ _))))))
  · rw [if_neg h0]
    refine .same (fun m => ?_) dfa
    unfold e_text_reader_read_none
    simp only [wantf_eq, numf_eq]
    by_cases hl : 0 < b.length
    · have e0 : ¬ b.getD 0 0 = 109 := by
        intro h
        apply h0
        rw [List.getElem?_eq_getElem hl]
        rw [getD_of 0 hl] at h
        rw [h]
      rw [br_pos (by omega), br_pos (by omega), br_eq' e0]
    · rw [br_neg (by omega)]
end reading

abbrev LT_errors_As_fault_nil := {R : Type} → Int → Int → (Int → Int → Option R) → Option R
/-- errors.As -/
def l_errors_As_fault_nil {R : Type} (o0 : Int) (o0_1 : Int) (K0 : Int → Int → Option R) : Option R := K0 o0 o0_1

abbrev LT_errors_As_none_fault_nil := {R : Type} → (Option R) → Option R
/-- errors.As -/
def l_errors_As_none_fault_nil {R : Type}  (K0 : Option R) : Option R := K0 

abbrev LT_text_Import := {R : Type} → (List Int) → (Int → Int → Int → Int → Int → Int → (List Int) → (List Int) → Option R) → Option R
/-- tutor/text.Import -/
def l_text_Import {R : Type} (b : List Int) (K0 : Int → Int → Int → Int → Int → Int → (List Int) → (List Int) → Option R) : Option R :=
  bi (decide ((b.length : Int) > 16777216))
   (K0 0 0 0 0 2 0 ([] : List Int) ([] : List Int))
   (l_text_reader_read_none b 0
    (fun r1 r2 r3 r4 r5 r6 r7 r8 r9 r10 =>
     l_errors_As_fault_nil r7 r8
      (fun r11 r12 =>
       both
        (both
         (both
          (thrice
           (K0 0 0 0 0 r11 r12 ([] : List Int) ([] : List Int)))
          (both
           (twice
            (K0 0 0 0 0 r11 r12 ([] : List Int) ([] : List Int)))
           (K0 0 0 0 0 r11 r12 ([] : List Int) ([] : List Int))))
         (both
          (both
           (thrice
            (K0 0 0 0 0 r11 r12 ([] : List Int) ([] : List Int)))
           (both
            (twice
             (K0 0 0 0 0 r11 r12 ([] : List Int) ([] : List Int)))
            (both
             (twice
              (K0 0 0 0 0 r11 r12 ([] : List Int) ([] : List Int)))
             (K0 0 0 0 0 r11 r12 ([] : List Int) ([] : List Int)))))
          (twice
           (both
            (twice
             (K0 0 0 0 0 r11 r12 ([] : List Int) ([] : List Int)))
            (K0 0 0 0 0 r11 r12 ([] : List Int) ([] : List Int))))))
        (both
         (both
          (both
           (thrice
            (K0 0 0 0 0 r11 r12 ([] : List Int) ([] : List Int)))
           (both
            (twice
             (K0 0 0 0 0 r11 r12 ([] : List Int) ([] : List Int)))
            (both
             (twice
              (K0 0 0 0 0 r11 r12 ([] : List Int) ([] : List Int)))
             (K0 0 0 0 0 r11 r12 ([] : List Int) ([] : List Int)))))
          (both
           (both
            (twice
             (K0 0 0 0 0 r11 r12 ([] : List Int) ([] : List Int)))
            (K0 0 0 0 0 r11 r12 ([] : List Int) ([] : List Int)))
           (both
            (both
             (twice
              (K0 0 0 0 0 r11 r12 ([] : List Int) ([] : List Int)))
             (K0 0 0 0 0 r11 r12 ([] : List Int) ([] : List Int)))
            (K0 0 0 0 0 r11 r12 ([] : List Int) ([] : List Int)))))
         (both
          (twice
           (both
            (twice
             (K0 0 0 0 0 r11 r12 ([] : List Int) ([] : List Int)))
            (K0 0 0 0 0 r11 r12 ([] : List Int) ([] : List Int))))
          (both
           (both
            (twice
             (K0 0 0 0 0 r11 r12 ([] : List Int) ([] : List Int)))
            (K0 0 0 0 0 r11 r12 ([] : List Int) ([] : List Int)))
           (K0 0 0 0 0 r11 r12 ([] : List Int) ([] : List Int)))))))
    (fun r13 r14 r15 r16 r17 r18 r19 r20 =>
     l_errors_As_none_fault_nil
      (K0 r13 r14 r15 r16 0 (b.length : Int) r19 r20)))

theorem import_eq {R : Type} (b : List Int) (K0 : Int → Int → Int → Int → Int → Int → List Int → List Int → Option R) :
    l_text_Import b K0 = K0 (impS b).k (impS b).K (impS b).O (impS b).N (impS b).e (impS b).p (impS b).nx (impS b).ou := by
  unfold l_text_Import impS
  by_cases h : (b.length : Int) > 16777216
  · rw [br_pos h, if_pos h]
  · rw [br_neg h, if_neg h]
    simp only [l_errors_As_fault_nil, l_errors_As_none_fault_nil, both_same, twice_eq, thrice_eq]
    rw [read_eq (G := fun k p => K0 0 0 0 0 k p [] []) (by omega)]
    cases readS b <;> rfl

abbrev LT_tutorlaw08_num := {R : Type} → Int → (Int → Option R) → Option R
/-- tutor/tutorlaw08.num -/
def l_tutorlaw08_num {R : Type} (e : Int) (K0 : Int → Option R) : Option R :=
  K0 e

abbrev LT_tutorref01_Same := {R : Type} → (List Int) → (List Int) → (Bool → Option R) → Option R
abbrev GT_tutorref01_Same_4 (R : Type) := (List Int) → (List Int) → Int → Option R
/-- tutor/tutorref01.Same -/
def s_tutorref01_Same_4 {R : Type} (g37_4 : GT_tutorref01_Same_4 R) (K0 : Bool → Option R) (a b : List Int) (i : Int) : Option R :=
  bi (decide (i < (a.length : Int)))
   (bi (decide (0 ≤ i ∧ i < ((a.length : Nat) : Int)))
    (bi (decide (0 ≤ i ∧ i < ((b.length : Nat) : Int)))
     (bi ((a.getD i.toNat 0) != (b.getD i.toNat 0))
      (K0 false)
      (g37_4 a b (IntKind.i64.wrap (i + 1))))
     none)
    none)
   (K0 true)

/-- tutor/tutorref01.Same -/
def e_tutorref01_Same {R : Type} (g37_4 : GT_tutorref01_Same_4 R) (K0 : Bool → Option R) (a b : List Int) : Option R :=
  bi ((a.length : Int) != (b.length : Int))
   (K0 false)
   (g37_4 a b 0)

def run_tutorref01_Same {R : Type} (K0 : Bool → Option R) : Nat → (List Int) → (List Int) → Int → Option R
  | 0 => fun _ _ _ => none
  | n + 1 => s_tutorref01_Same_4 (run_tutorref01_Same K0 n) K0

def l_tutorref01_Same {R : Type} (a : List Int) (b : List Int) (K0 : Bool → Option R) : Option R := bi (decide (short a)) (K0 (decide (a = b))) none

theorem findP_zip {a b : List Int} (hl : a.length = b.length) : findP (fun i => a.getD i 0 != b.getD i 0) (List.range a.length) = none ↔ a = b := by
  rw [findP_none]
  constructor
  · intro h
    refine List.ext_getElem hl fun i h1 h2 => ?_
    have := h i (by simpa using h1)
    rw [getD_of 0 h1, getD_of 0 h2] at this
    simpa using this
  · rintro rfl i _
    simp

theorem ok_tutorref01_Same {R : Type} (a : List Int) (b : List Int) (K0 : Bool → Option R) {r : R} (h : l_tutorref01_Same a b K0 = some r) : ∃ fuel, e_tutorref01_Same (run_tutorref01_Same K0 fuel) K0 a b = some r := by
  unfold l_tutorref01_Same at h
  rcases bi_some h with ⟨hs, h⟩ | ⟨_, h⟩
  · have hs : a.length < 4611686018427387904 := of_decide_eq_true hs
    refine ⟨a.length + 1, ?_⟩
    rw [← h]
    unfold e_tutorref01_Same
    by_cases hl : a.length = b.length
    · rw [br_ne' (by omega)]
      have key := scan_all (F := fun m i => run_tutorref01_Same K0 m a b (i : Int)) (fun i => a.getD i 0 != b.getD i 0) (l := List.range a.length) (A := fun i => K0 false) (B := K0 true)
        (fun m => by
          show s_tutorref01_Same_4 _ _ _ _ _ = _
          unfold s_tutorref01_Same_4
          rw [List.length_range, br_neg (by omega)])
        (fun m i hi => by
          rw [List.length_range] at hi
          show s_tutorref01_Same_4 _ _ _ _ _ = _
          unfold s_tutorref01_Same_4
          rw [br_pos (by omega), br_pos (by omega), br_pos (by omega), br_if, Int.toNat_natCast, wr _ (by omega) (by omega), List.getElem_range]
          rfl)
      rw [List.length_range] at key
      refine key.trans ?_
      by_cases e : a = b
      · rw [(findP_zip hl).2 e]
        simp [e]
      · have : findP (fun i => a.getD i 0 != b.getD i 0) (List.range a.length) ≠ none := fun h => e ((findP_zip hl).1 h)
        cases hf : findP (fun i => a.getD i 0 != b.getD i 0) (List.range a.length) with
        | none => exact absurd hf this
        | some j => simp [e]
    · rw [br_ne (by omega)]
      have e : a ≠ b := fun e => hl (by rw [e])
      simp [e]
  · cases h

theorem same_eq {R : Type} {a b : List Int} (h : short a) (K0 : Bool → Option R) : l_tutorref01_Same a b K0 = K0 (decide (a = b)) := by
  unfold l_tutorref01_Same
  rw [br_pos h]

abbrev LT_tutorref03_Same := {R : Type} → Int → Int → Int → Int → (List Int) → (List Int) → Int → Int → Int → Int → (List Int) → (List Int) → (Bool → Option R) → Option R
/-- tutor/tutorref03.Same -/
def l_tutorref03_Same {R : Type} (a a_1 a_2 a_3 : Int) (a_4 a_5 : List Int) (b b_1 b_2 b_3 : Int) (b_4 b_5 : List Int) (K0 : Bool → Option R) : Option R :=
  bi (a == b)
   (bi (a_1 == b_1)
    (bi (a_2 == b_2)
     (bi (a_3 == b_3)
      (l_tutorref01_Same a_4 b_4
       (fun r1 =>
        bi r1
         (l_tutorref01_Same a_5 b_5
          (fun r2 =>
           K0 r2))
         (K0 false)))
      (K0 false))
     (K0 false))
    (K0 false))
   (K0 false)

theorem sameM_eq {R : Type} {k K O N : Int} {nx ou : List Int} (h1 : short nx) (h2 : short ou) (K0 : Bool → Option R) :
    l_tutorref03_Same k K O N nx ou k K O N nx ou K0 = K0 true := by
  unfold l_tutorref03_Same
  rw [br_eq rfl, br_eq rfl, br_eq rfl, br_eq rfl, same_eq h1]
  try dsimp only
  rw [br_pos rfl, same_eq h2]
  simp

abbrev LT_tutorlaw08_live := {R : Type} → (Bool → Option R) → Option R
/-- tutor/tutorlaw08.live -/
def l_tutorlaw08_live {R : Type}  (K0 : Bool → Option R) : Option R :=
  l_text_Export 1 1 2 2 [1, 0] [0, 1]
   (fun r1 r2 =>
    l_text_Import r2
     (fun r3 r4 r5 r6 r7 r8 r9 r10 =>
      bi (decide (0 < [100, 102, 97, 32, 49, 32, 49, 10, 50, 32, 48, 10].length))
       (l_text_Import [100, 102, 97, 32, 49, 32, 49, 10, 50, 32, 48, 10]
        (fun r11 r12 r13 r14 r15 r16 r17 r18 =>
         bi (decide (0 < [48, 52, 50].length))
          (l_text_Number [48, 52, 50] 0
           (fun r19 r20 r21 =>
            l_tutorlaw08_num r1
             (fun r22 =>
              l_tutorlaw08_num r7
               (fun r23 =>
                bi ((IntKind.i64.wrap (r22 + r23)) == 0)
                 (bi ((ofBts r2).toList == (ByteArray.mk #[100, 102, 97, 32, 49, 32, 50, 10, 48, 32, 49, 10, 49, 32, 48, 10]).toList)
                  (l_tutorref03_Same r3 r4 r5 r6 r9 r10 1 1 2 2 [1, 0] [0, 1]
                   (fun r24 =>
                    bi r24
                     (bi (r8 == 16)
                      (l_tutorlaw08_num r15
                       (fun r25 =>
                        bi (r25 == 33)
                         (bi (r16 == 8)
                          (l_tutorlaw08_num r21
                           (fun r26 =>
                            bi (r26 == 6)
                             (K0 (r20 == 1))
                             (K0 false)))
                          (K0 false))
                         (K0 false)))
                      (K0 false))
                     (K0 false)))
                  (K0 false))
                 (K0 false)))))
          none))
       none))

theorem live08 {R : Type} (K0 : Bool → Option R) : l_tutorlaw08_live K0 = K0 true := by
  unfold l_tutorlaw08_live
  rw [exp_eq (by decide) (by decide), show exportS 1 1 2 2 [1, 0] [0, 1] = ([100, 102, 97, 32, 49, 32, 50, 10, 48, 32, 49, 10, 49, 32, 48, 10], 0) by kernel_rfl]
  try dsimp only
  rw [import_eq, show impS [100, 102, 97, 32, 49, 32, 50, 10, 48, 32, 49, 10, 49, 32, 48, 10] = ⟨1, 1, 2, 2, 0, 16, [1, 0], [0, 1]⟩ by kernel_rfl]
  try dsimp only
  rw [br_pos (by decide), import_eq, show impS [100, 102, 97, 32, 49, 32, 49, 10, 50, 32, 48, 10] = ⟨0, 0, 0, 0, 33, 8, [], []⟩ by kernel_rfl]
  try dsimp only
  rw [br_pos (by decide), number_eq (by unfold short; decide), show numS [48, 52, 50] 0 = (0, 1, 6) by kernel_rfl]
  dsimp only [l_tutorlaw08_num]
  rw [br_eq (by kernel_rfl), show ((ofBts [100, 102, 97, 32, 49, 32, 50, 10, 48, 32, 49, 10, 49, 32, 48, 10]).toList == (ByteArray.mk #[100, 102, 97, 32, 49, 32, 50, 10, 48, 32, 49, 10, 49, 32, 48, 10]).toList) = true by kernel_rfl, br_tt, sameM_eq (by unfold short; decide) (by unfold short; decide)]
  try dsimp only
  rw [br_tt, br_eq rfl, br_eq rfl, br_eq rfl, br_eq rfl]
  kernel_rfl

abbrev LT_tutorref08_word := {R : Type} → (List Int) → Int → ByteArray → (Int → Int → Option R) → Option R
abbrev GT_tutorref08_word_2 (R : Type) := (List Int) → Int → ByteArray → Int → Option R
/-- tutor/tutorref08.word -/
def s_tutorref08_word_2 {R : Type} (g55_2 : GT_tutorref08_word_2 R) (K0 : Int → Int → Option R) (b : List Int) (vat : Int) (s : ByteArray) (i : Int) : Option R :=
  bi (decide (i < (s.size : Int)))
   (bi (decide ((IntKind.i64.wrap (vat + i)) ≥ (b.length : Int)))
    (K0 (-1) (IntKind.i64.wrap (vat + i)))
    (bi (decide (0 ≤ (IntKind.i64.wrap (vat + i)) ∧ (IntKind.i64.wrap (vat + i)) < ((b.length : Nat) : Int)))
     (bi (decide (0 ≤ i ∧ i < ((s.size : Nat) : Int)))
      (bi ((b.getD ((IntKind.i64.wrap (vat + i)).toNat) 0) != ((s.data.toList.getD i.toNat 0).toNat : Int))
       (K0 (-1) (IntKind.i64.wrap (vat + i)))
       (g55_2 b vat s (IntKind.i64.wrap (i + 1))))
      none)
     none))
   (K0 (IntKind.i64.wrap (vat + (s.size : Int))) 0)

/-- tutor/tutorref08.word -/
def e_tutorref08_word {R : Type} (g55_2 : GT_tutorref08_word_2 R) (K0 : Int → Int → Option R) (b : List Int) (vat : Int) (s : ByteArray) : Option R :=
  g55_2 b vat s 0

def run_tutorref08_word {R : Type} (K0 : Int → Int → Option R) : Nat → (List Int) → Int → ByteArray → Int → Option R
  | 0 => fun _ _ _ _ => none
  | n + 1 => s_tutorref08_word_2 (run_tutorref08_word K0 n) K0

def l_tutorref08_word {R : Type} (b : List Int) (vat : Int) (s : ByteArray) (K0 : Int → Int → Option R) : Option R := evl fun fuel => e_tutorref08_word (run_tutorref08_word K0 fuel) K0 b vat s

theorem ok_tutorref08_word {R : Type} (b : List Int) (vat : Int) (s : ByteArray) (K0 : Int → Int → Option R) {r : R} (h : l_tutorref08_word b vat s K0 = some r) : ∃ fuel, e_tutorref08_word (run_tutorref08_word K0 fuel) K0 b vat s = some r := evl_ok h

theorem wantS_six : ∀ {s b : List Int} {a : Nat} {e : Int × Int}, wantS s b a = .inl e → e.1 = 6
  | [], b, a, e, h => by cases h
  | x :: s, b, a, e, h => by
    unfold wantS at h
    by_cases c : b[a]? = some x
    · rw [if_pos c] at h
      exact wantS_six h
    · rw [if_neg c] at h
      cases h
      rfl

theorem rword_run {R : Type} {b : List Int} (hs : short b) (s : ByteArray) (hz : s.size ≤ 1000) (K0 : Int → Int → Option R) (a : Nat) :
    ∀ (d i : Nat), i + d = s.size → a + i ≤ b.length →
      Reach (fun m => run_tutorref08_word K0 m b (a : Int) s (i : Int)) (match wantS ((bts s).drop i) b (a + i) with | .inl e => K0 (-1) e.2 | .inr c => K0 (c : Int) 0) := by
  have hl : (bts s).length = s.size := by simp [bts]
  unfold short at hs
  intro d
  induction d with
  | zero =>
    intro i hi ha
    refine .now fun m => ?_
    rw [show run_tutorref08_word K0 (m + 1) = s_tutorref08_word_2 (run_tutorref08_word K0 m) K0 from rfl]
    unfold s_tutorref08_word_2
    rw [br_neg (by omega), List.drop_of_length_le (by omega), wr ((a : Int) + s.size) (by omega) (by omega)]
    simp only [wantS]
    congr 1
    omega
  | succ d ih =>
    intro i hi ha
    have hlt : i < (bts s).length := by omega
    have hget : (bts s)[i] = ((s.data.toList.getD i 0).toNat : Int) := by
      simp [bts, List.getD_eq_getElem?_getD, List.getElem?_eq_getElem (show i < s.data.toList.length by simpa [bts] using hlt)]
    rw [List.drop_eq_getElem_cons hlt, hget]
    unfold wantS
    by_cases h1 : a + i = b.length
    · refine .now fun m => ?_
      rw [show run_tutorref08_word K0 (m + 1) = s_tutorref08_word_2 (run_tutorref08_word K0 m) K0 from rfl]
      unfold s_tutorref08_word_2
      rw [wr ((a : Int) + i) (by omega) (by omega), br_pos (by omega), br_pos (by omega), if_neg (by rw [List.getElem?_eq_none (by omega)]; simp)]
      rfl
    · have hab : a + i < b.length := by omega
      by_cases h2 : b[a + i] = ((s.data.toList.getD i 0).toNat : Int)
      · rw [if_pos (by rw [List.getElem?_eq_getElem hab, h2])]
        refine .step (fun m => ?_) (ih (i + 1) (by omega) (by omega))
        rw [show run_tutorref08_word K0 (m + 1) = s_tutorref08_word_2 (run_tutorref08_word K0 m) K0 from rfl]
        unfold s_tutorref08_word_2
        rw [wr ((a : Int) + i) (by omega) (by omega), br_pos (by omega), br_neg (by omega), br_pos (by omega), br_pos (by omega), show ((a : Int) + i).toNat = a + i by omega, Int.toNat_natCast, getD_of 0 hab, br_ne' h2, wr ((i : Int) + 1) (by omega) (by omega)]
        rfl
      · rw [if_neg (by rw [List.getElem?_eq_getElem hab]; simpa using h2)]
        refine .now fun m => ?_
        rw [show run_tutorref08_word K0 (m + 1) = s_tutorref08_word_2 (run_tutorref08_word K0 m) K0 from rfl]
        unfold s_tutorref08_word_2
        rw [wr ((a : Int) + i) (by omega) (by omega), br_pos (by omega), br_neg (by omega), br_pos (by omega), br_pos (by omega), show ((a : Int) + i).toNat = a + i by omega, Int.toNat_natCast, getD_of 0 hab, br_ne h2]
        rfl

theorem rword_eq {R : Type} {b : List Int} (hs : short b) {s : ByteArray} (hz : s.size ≤ 1000) (K0 : Int → Int → Option R) {a : Nat} (ha : a ≤ b.length) :
    l_tutorref08_word b (a : Int) s K0 = match wantS (bts s) b a with | .inl e => K0 (-1) e.2 | .inr c => K0 (c : Int) 0 :=
  evl_eq (Reach.of_eq (rword_run hs s hz K0 a s.size 0 (by omega) ha) (by rw [List.drop_zero, Nat.add_zero]))

abbrev LT_tutorref08_Number := {R : Type} → (List Int) → Int → (Int → Int → Int → Option R) → Option R
abbrev GT_tutorref08_Number_4 (R : Type) := (List Int) → Int → Int → Option R
abbrev GT_tutorref08_Number_14 (R : Type) := (List Int) → Int → Int → Int → Int → Option R
/-- tutor/tutorref08.Number -/
def s_tutorref08_Number_4 {R : Type} (g22_4 : GT_tutorref08_Number_4 R) (g22_14 : GT_tutorref08_Number_14 R) (K0 : Int → Int → Int → Option R) (b : List Int) (vat k : Int) : Option R :=
  bi (decide ((IntKind.i64.wrap (vat + k)) < (b.length : Int)))
   (bi (decide (0 ≤ (IntKind.i64.wrap (vat + k)) ∧ (IntKind.i64.wrap (vat + k)) < ((b.length : Nat) : Int)))
    (bi (decide ((b.getD ((IntKind.i64.wrap (vat + k)).toNat) 0) ≥ 48))
     (bi (decide (0 ≤ (IntKind.i64.wrap (vat + k)) ∧ (IntKind.i64.wrap (vat + k)) < ((b.length : Nat) : Int)))
      (bi (decide ((b.getD ((IntKind.i64.wrap (vat + k)).toNat) 0) ≤ 57))
       (g22_4 b vat (IntKind.i64.wrap (k + 1)))
       (bi (k == 0)
        (K0 0 vat 6)
        (bi (decide (k > 1))
         (bi (decide (0 ≤ vat ∧ vat < ((b.length : Nat) : Int)))
          (bi ((b.getD vat.toNat 0) == 48)
           (K0 0 (IntKind.i64.wrap (vat + 1)) 6)
           (bi (decide (k > 4))
            (K0 0 (IntKind.i64.wrap (vat + 4)) 6)
            (g22_14 b vat k 0 vat)))
          none)
         (bi (decide (k > 4))
          (K0 0 (IntKind.i64.wrap (vat + 4)) 6)
          (g22_14 b vat k 0 vat)))))
      none)
     (bi (k == 0)
      (K0 0 vat 6)
      (bi (decide (k > 1))
       (bi (decide (0 ≤ vat ∧ vat < ((b.length : Nat) : Int)))
        (bi ((b.getD vat.toNat 0) == 48)
         (K0 0 (IntKind.i64.wrap (vat + 1)) 6)
         (bi (decide (k > 4))
          (K0 0 (IntKind.i64.wrap (vat + 4)) 6)
          (g22_14 b vat k 0 vat)))
        none)
       (bi (decide (k > 4))
        (K0 0 (IntKind.i64.wrap (vat + 4)) 6)
        (g22_14 b vat k 0 vat)))))
    none)
   (bi (k == 0)
    (K0 0 vat 6)
    (bi (decide (k > 1))
     (bi (decide (0 ≤ vat ∧ vat < ((b.length : Nat) : Int)))
      (bi ((b.getD vat.toNat 0) == 48)
       (K0 0 (IntKind.i64.wrap (vat + 1)) 6)
       (bi (decide (k > 4))
        (K0 0 (IntKind.i64.wrap (vat + 4)) 6)
        (g22_14 b vat k 0 vat)))
      none)
     (bi (decide (k > 4))
      (K0 0 (IntKind.i64.wrap (vat + 4)) 6)
      (g22_14 b vat k 0 vat))))

/-- tutor/tutorref08.Number -/
def s_tutorref08_Number_14 {R : Type} (g22_4 : GT_tutorref08_Number_4 R) (g22_14 : GT_tutorref08_Number_14 R) (K0 : Int → Int → Int → Option R) (b : List Int) (vat k n i : Int) : Option R :=
  bi (decide (i < (IntKind.i64.wrap (vat + k))))
   (bi (decide (0 ≤ i ∧ i < ((b.length : Nat) : Int)))
    (g22_14 b vat k (IntKind.i64.wrap ((IntKind.i64.wrap (n * 10)) + (IntKind.i64.wrap (IntKind.u8.wrap ((b.getD i.toNat 0) - 48))))) (IntKind.i64.wrap (i + 1)))
    none)
   (K0 n (IntKind.i64.wrap (vat + k)) 0)

/-- tutor/tutorref08.Number -/
def e_tutorref08_Number {R : Type} (g22_4 : GT_tutorref08_Number_4 R) (g22_14 : GT_tutorref08_Number_14 R) (K0 : Int → Int → Int → Option R) (b : List Int) (vat : Int) : Option R :=
  bi (decide (vat < 0))
   (K0 0 0 1)
   (bi (decide (vat > (b.length : Int)))
    (K0 0 0 1)
    (g22_4 b vat 0))

def run_tutorref08_Number {R : Type} (K0 : Int → Int → Int → Option R) : Nat → ((List Int) → Int → Int → Option R) × ((List Int) → Int → Int → Int → Int → Option R)
  | 0 => (fun _ _ _ => none, fun _ _ _ _ _ => none)
  | n + 1 => (s_tutorref08_Number_4 (run_tutorref08_Number K0 n).1 (run_tutorref08_Number K0 n).2 K0, s_tutorref08_Number_14 (run_tutorref08_Number K0 n).1 (run_tutorref08_Number K0 n).2 K0)

def l_tutorref08_Number {R : Type} (b : List Int) (vat : Int) (K0 : Int → Int → Int → Option R) : Option R := evl fun fuel => e_tutorref08_Number (run_tutorref08_Number K0 fuel).1 (run_tutorref08_Number K0 fuel).2 K0 b vat

theorem ok_tutorref08_Number {R : Type} (b : List Int) (vat : Int) (K0 : Int → Int → Int → Option R) {r : R} (h : l_tutorref08_Number b vat K0 = some r) : ∃ fuel, e_tutorref08_Number (run_tutorref08_Number K0 fuel).1 (run_tutorref08_Number K0 fuel).2 K0 b vat = some r := evl_ok h

theorem st_tutorref08_Number_4 {R : Type} (K0 : Int → Int → Int → Option R) (fuel : Nat) (b : List Int) (vat k : Int) : (run_tutorref08_Number K0 (fuel + 1)).1 b vat k = s_tutorref08_Number_4 (run_tutorref08_Number K0 fuel).1 (run_tutorref08_Number K0 fuel).2 K0 b vat k := rfl

theorem st_tutorref08_Number_14 {R : Type} (K0 : Int → Int → Int → Option R) (fuel : Nat) (b : List Int) (vat k n i : Int) : (run_tutorref08_Number K0 (fuel + 1)).2 b vat k n i = s_tutorref08_Number_14 (run_tutorref08_Number K0 fuel).1 (run_tutorref08_Number K0 fuel).2 K0 b vat k n i := rfl

section refnumber
variable {R : Type} {K0 : Int → Int → Int → Option R} {b : List Int}

theorem rn_val (hs : short b) {a k : Nat} (hk : a + k ≤ b.length) (hd : ∀ j, a ≤ j → (h : j < a + k) → isDig (b[j]'(by omega))) : ∀ (d i : Nat) (j : Nat) (n : Int), i + d = a + k → a ≤ i → j + d ≤ 4 → 0 ≤ n → n < 10 ^ j →
    Reach (fun m => (run_tutorref08_Number K0 m).2 b (a : Int) (k : Int) n (i : Int)) (K0 (valN (b.drop i) d n) ((a + k : Nat) : Int) 0)
  | 0, i, j, n, hi, ha, hj, h0, h1 => by
    unfold short at hs
    refine .now fun m => ?_
    rw [st_tutorref08_Number_14]
    unfold s_tutorref08_Number_14
    rw [wr ((a : Int) + k) (by omega) (by omega), br_neg (by omega)]
    have e : valN (b.drop i) 0 n = n := by cases b.drop i <;> rfl
    rw [e]
    congr 1
  | d + 1, i, j, n, hi, ha, hj, h0, h1 => by
    have hs' := hs
    unfold short at hs'
    have hlt : i < b.length := by omega
    have hdig := hd i ha (by omega)
    unfold isDig at hdig
    have hp : (10 : Int) ^ (j + 1) = 10 ^ j * 10 := Int.pow_succ 10 j
    have hp4 : (10 : Int) ^ j ≤ 10 ^ 4 := by
      have : (10 : Nat) ^ j ≤ 10 ^ 4 := Nat.pow_le_pow_right (by decide) (by omega)
      exact_mod_cast this
    have ih := rn_val hs hk hd d (i + 1) (j + 1) (10 * n + (b[i] - 48)) (by omega) (by omega) (by omega) (by omega) (by omega)
    rw [List.drop_eq_getElem_cons hlt]
    refine .step (fun m => ?_) ih
    rw [st_tutorref08_Number_14]
    unfold s_tutorref08_Number_14
    rw [wr ((a : Int) + k) (by omega) (by omega), br_pos (by omega), br_pos (by omega), Int.toNat_natCast, getD_of 0 hlt, wr (n * 10) (by omega) (by omega), wr8 (b[i] - 48) (by omega) (by omega), wr (b[i] - 48) (by omega) (by omega), wr _ (by omega) (by omega), wr ((i : Int) + 1) (by omega) (by omega), Int.mul_comm n 10]
    rfl

theorem rn_run (hs : short b) {a : Nat} (ha : a ≤ b.length) : ∀ (e k : Nat), digC (b.drop (a + k)) = e → k + e = digC (b.drop a) →
    Reach (fun m => (run_tutorref08_Number K0 m).1 b (a : Int) (k : Int)) (K0 (numL (b.drop a)).1 ((a + (numL (b.drop a)).2.1 : Nat) : Int) (numL (b.drop a)).2.2) := by
  intro e
  have hs' := hs
  unfold short at hs'
  have hC := digC_le (b.drop a)
  rw [List.length_drop] at hC
  induction e with
  | zero =>
    intro k he hk
    have hkC : digC (b.drop a) = k := by omega
    have stop : Reach (fun m => bi ((k : Int) == 0) (K0 0 (a : Int) 6)
        (bi (decide ((k : Int) > 1))
         (bi (decide (0 ≤ (a : Int) ∧ (a : Int) < ((b.length : Nat) : Int)))
          (bi ((b.getD (a : Int).toNat 0) == 48)
           (K0 0 (IntKind.i64.wrap ((a : Int) + 1)) 6)
           (bi (decide ((k : Int) > 4))
            (K0 0 (IntKind.i64.wrap ((a : Int) + 4)) 6)
            ((run_tutorref08_Number K0 m).2 b (a : Int) (k : Int) 0 (a : Int))))
          none)
         (bi (decide ((k : Int) > 4))
          (K0 0 (IntKind.i64.wrap ((a : Int) + 4)) 6)
          ((run_tutorref08_Number K0 m).2 b (a : Int) (k : Int) 0 (a : Int))))) (K0 (numL (b.drop a)).1 ((a + (numL (b.drop a)).2.1 : Nat) : Int) (numL (b.drop a)).2.2) := by
      rw [numL_count, hkC]
      have val : 4 ≥ k → Reach (fun m => (run_tutorref08_Number K0 m).2 b (a : Int) (k : Int) 0 (a : Int)) (K0 (valN (b.drop a) k 0) ((a + k : Nat) : Int) 0) := fun h4 =>
        rn_val hs (by omega) (fun j h1 h2 => by
          have := digC_dig (b.drop a) (j - a) (by rw [List.length_drop]; omega) (by omega)
          rw [List.getElem_drop] at this
          have e : a + (j - a) = j := by omega
          simp only [e] at this
          exact this) k a 0 0 (by omega) (by omega) (by omega) (by omega) (by decide)
      have hg : (b.drop a).getD 0 0 = b.getD a 0 := by
        rw [List.getD_eq_getElem?_getD, List.getD_eq_getElem?_getD, List.getElem?_drop, Nat.add_zero]
      by_cases c0 : k = 0
      · refine .now fun m => ?_
        rw [if_pos c0, br_eq (by omega)]
        rfl
      · rw [if_neg c0]
        by_cases c1 : 1 < k ∧ b.getD a 0 = 48
        · refine .now fun m => ?_
          rw [hg, if_pos c1, br_eq' (by omega), br_pos (by omega), br_pos (by omega), Int.toNat_natCast, br_eq c1.2, wr ((a : Int) + 1) (by omega) (by omega)]
          rfl
        · rw [hg, if_neg c1]
          by_cases c4 : 4 < k
          · refine .now fun m => ?_
            rw [if_pos c4, br_eq' (by omega), br_pos (by omega), br_pos (by omega), Int.toNat_natCast, br_eq' (fun h => c1 ⟨by omega, h⟩), br_pos (by omega), wr ((a : Int) + 4) (by omega) (by omega)]
            rfl
          · rw [if_neg c4]
            refine .same (fun m => ?_) (val (by omega))
            rw [br_eq' (by omega)]
            by_cases c2 : 1 < k
            · rw [br_pos (by omega), br_pos (by omega), Int.toNat_natCast, br_eq' (fun h => c1 ⟨c2, h⟩), br_neg (by omega)]
            · rw [br_neg (by omega), br_neg (by omega)]
    by_cases hend : a + k = b.length
    · refine .step (fun m => ?_) stop
      rw [st_tutorref08_Number_4]
      unfold s_tutorref08_Number_4
      rw [wr ((a : Int) + k) (by omega) (by omega), br_neg (by omega)]
    · have hlt : a + k < b.length := by omega
      rw [List.drop_eq_getElem_cons hlt] at he
      simp only [digC] at he
      have hnd : ¬ isDig b[a + k] := by
        intro h
        rw [if_pos h] at he
        omega
      unfold isDig at hnd
      refine .step (fun m => ?_) stop
      rw [st_tutorref08_Number_4]
      unfold s_tutorref08_Number_4
      rw [wr ((a : Int) + k) (by omega) (by omega), br_pos (by omega), br_pos (by omega), show ((a : Int) + k).toNat = a + k by omega, getD_of 0 hlt]
      by_cases c : b[a + k] ≥ 48
      · rw [br_pos c, br_pos (by omega), br_neg (by omega)]
      · rw [br_neg c]
  | succ e ih =>
    intro k he hk
    have hlt : a + k < b.length := by omega
    rw [List.drop_eq_getElem_cons hlt] at he
    simp only [digC] at he
    by_cases hd : isDig b[a + k]
    · rw [if_pos hd] at he
      refine .step (fun m => ?_) (ih (k + 1) (by rw [← Nat.add_assoc]; omega) (by omega))
      unfold isDig at hd
      rw [st_tutorref08_Number_4]
      unfold s_tutorref08_Number_4
      rw [wr ((a : Int) + k) (by omega) (by omega), br_pos (by omega), br_pos (by omega), show ((a : Int) + k).toNat = a + k by omega, getD_of 0 hlt, br_pos hd.1, br_pos (by omega), br_pos hd.2, wr ((k : Int) + 1) (by omega) (by omega)]
      rfl
    · rw [if_neg hd] at he
      omega

theorem rnumber8_eq (hs : short b) (vat : Int) : l_tutorref08_Number b vat K0 = K0 (numS b vat).1 (numS b vat).2.1 (numS b vat).2.2 := by
  refine evl_eq ?_
  unfold numS
  by_cases c : vat < 0
  · rw [if_pos (.inl c)]
    refine .now fun m => ?_
    unfold e_tutorref08_Number
    rw [br_pos c]
  · by_cases c2 : vat > (b.length : Int)
    · rw [if_pos (.inr c2)]
      refine .now fun m => ?_
      unfold e_tutorref08_Number
      rw [br_neg c, br_pos c2]
    · rw [if_neg (by omega)]
      obtain ⟨a, rfl⟩ : ∃ a : Nat, vat = a := ⟨vat.toNat, by omega⟩
      refine .same (fun m => ?_) ((rn_run (K0 := K0) hs (a := a) (by omega) (digC (b.drop a)) 0 rfl (by omega)).of_eq (by rw [Int.toNat_natCast, Int.natCast_add]))
      unfold e_tutorref08_Number
      rw [br_neg c, br_neg c2]
      rfl
end refnumber

abbrev LT_tutorref08_take := {R : Type} → (List Int) → Int → (List (ByteArray × (Int × (Int × Int)))) → (Int → Int → (List Int) → Option R) → Option R
abbrev GT_tutorref08_take_3 (R : Type) := (List Int) → Int → (List (ByteArray × (Int × (Int × Int)))) → Int → (List Int) → Option R
/-- tutor/tutorref08.take -/
def s_tutorref08_take_3 {R : Type} (g40_3 : GT_tutorref08_take_3 R) (K0 : Int → Int → (List Int) → Option R) (b : List Int) (vat : Int) (l : List (ByteArray × (Int × (Int × Int)))) (i : Int) (o0 : List Int) : Option R :=
  bi (decide (i < (l.length : Int)))
   (bi (decide (0 ≤ i ∧ i < ((l.length : Nat) : Int)))
    (bi (decide ((((l.getD i.toNat (ByteArray.empty, (0, (0, 0)))).1).size : Int) > 0))
     (bi (decide (0 ≤ i ∧ i < ((l.length : Nat) : Int)))
      (l_tutorref08_word b vat ((l.getD i.toNat (ByteArray.empty, (0, (0, 0)))).1)
       (fun r1 r2 =>
        bi (decide (r1 < 0))
         (K0 r2 6 ([] : List Int))
         (g40_3 b r1 l (IntKind.i64.wrap (i + 1)) o0)))
      none)
     (l_tutorref08_Number b vat
      (fun r3 r4 r5 =>
       bi (r5 != 0)
        (K0 r4 r5 ([] : List Int))
        (bi (decide (0 ≤ i ∧ i < ((l.length : Nat) : Int)))
         (bi (decide (r3 < (((l.getD i.toNat (ByteArray.empty, (0, (0, 0)))).2).1)))
          (bi (decide (0 ≤ i ∧ i < ((l.length : Nat) : Int)))
           (K0 vat ((((l.getD i.toNat (ByteArray.empty, (0, (0, 0)))).2).2).2) ([] : List Int))
           none)
          (bi (decide (0 ≤ i ∧ i < ((l.length : Nat) : Int)))
           (bi (decide (r3 > ((((l.getD i.toNat (ByteArray.empty, (0, (0, 0)))).2).2).1)))
            (bi (decide (0 ≤ i ∧ i < ((l.length : Nat) : Int)))
             (K0 vat ((((l.getD i.toNat (ByteArray.empty, (0, (0, 0)))).2).2).2) ([] : List Int))
             none)
            (bi (decide ((o0.length + [r3].length) * 8 ≤ lim))
             (g40_3 b r4 l (IntKind.i64.wrap (i + 1)) (o0 ++ [r3]))
             none))
           none))
         none))))
    none)
   (K0 vat 0 o0)

/-- tutor/tutorref08.take -/
def e_tutorref08_take {R : Type} (g40_3 : GT_tutorref08_take_3 R) (K0 : Int → Int → (List Int) → Option R) (b : List Int) (vat : Int) (l : List (ByteArray × (Int × (Int × Int)))) : Option R :=
  g40_3 b vat l 0 ([] : List Int)

def run_tutorref08_take {R : Type} (K0 : Int → Int → (List Int) → Option R) : Nat → (List Int) → Int → (List (ByteArray × (Int × (Int × Int)))) → Int → (List Int) → Option R
  | 0 => fun _ _ _ _ _ => none
  | n + 1 => s_tutorref08_take_3 (run_tutorref08_take K0 n) K0

def l_tutorref08_take {R : Type} (b : List Int) (vat : Int) (l : List (ByteArray × (Int × (Int × Int)))) (K0 : Int → Int → (List Int) → Option R) : Option R := evl fun fuel => e_tutorref08_take (run_tutorref08_take K0 fuel) K0 b vat l

theorem ok_tutorref08_take {R : Type} (b : List Int) (vat : Int) (l : List (ByteArray × (Int × (Int × Int)))) (K0 : Int → Int → (List Int) → Option R) {r : R} (h : l_tutorref08_take b vat l K0 = some r) : ∃ fuel, e_tutorref08_take (run_tutorref08_take K0 fuel) K0 b vat l = some r := evl_ok h

theorem take_run {R : Type} {b : List Int} (hb : b.length ≤ 16777216) (l : List Pc) (hl : l.length ≤ 1000) (hp : ∀ p ∈ l, p.1.size ≤ 1000) (K0 : Int → Int → List Int → Option R) :
    ∀ (d i a : Nat) (ns : List Int), i + d = l.length → a ≤ b.length → ns.length ≤ i →
      Reach (fun m => run_tutorref08_take K0 m b (a : Int) l (i : Int) ns) (match takeS b (l.drop i) a ns with | .inl e => K0 e.2 e.1 [] | .inr q => K0 (q.1 : Int) 0 q.2) := by
  have hs : short b := by unfold short; omega
  intro d
  induction d with
  | zero =>
    intro i a ns hi ha hn
    refine .now fun m => ?_
    rw [show run_tutorref08_take K0 (m + 1) = s_tutorref08_take_3 (run_tutorref08_take K0 m) K0 from rfl]
    unfold s_tutorref08_take_3
    rw [br_neg (by omega), List.drop_of_length_le (by omega)]
    rfl
  | succ d ih =>
    intro i a ns hi ha hn
    have hlt : i < l.length := by omega
    have hpz := hp l[i] (List.getElem_mem hlt)
    rw [List.drop_eq_getElem_cons hlt]
    simp only [takeS]
    by_cases hw : 0 < l[i].1.size
    · rw [if_pos hw]
      cases hq : wantS (bts l[i].1) b a with
      | inl e =>
        refine .now fun m => ?_
        rw [show run_tutorref08_take K0 (m + 1) = s_tutorref08_take_3 (run_tutorref08_take K0 m) K0 from rfl]
        unfold s_tutorref08_take_3
        rw [br_pos (by omega), br_pos (by omega), Int.toNat_natCast, getD_of _ hlt, br_pos (by omega), br_pos (by omega), rword_eq hs hpz _ ha, hq]
        simp only [bindR]
        rw [br_pos (by omega), wantS_six hq]
      | inr c =>
        refine .step (fun m => ?_) (ih (i + 1) c ns (by omega) (wantS_le hq ha) (by omega))
        rw [show run_tutorref08_take K0 (m + 1) = s_tutorref08_take_3 (run_tutorref08_take K0 m) K0 from rfl]
        unfold s_tutorref08_take_3
        rw [br_pos (by omega), br_pos (by omega), Int.toNat_natCast, getD_of _ hlt, br_pos (by omega), br_pos (by omega), rword_eq hs hpz _ ha, hq]
        simp only
        rw [br_neg (by omega), wr ((i : Int) + 1) (by omega) (by omega)]
        rfl
    · rw [if_neg hw]
      have pre : ∀ m, run_tutorref08_take K0 (m + 1) b (a : Int) l (i : Int) ns = K0 0 0 [] ∨ True := fun _ => .inr trivial
      unfold numbS
      by_cases h1 : (numL (b.drop a)).2.2 ≠ 0
      · rw [if_pos h1]
        refine .now fun m => ?_
        rw [show run_tutorref08_take K0 (m + 1) = s_tutorref08_take_3 (run_tutorref08_take K0 m) K0 from rfl]
        unfold s_tutorref08_take_3
        rw [br_pos (by omega), br_pos (by omega), Int.toNat_natCast, getD_of _ hlt, br_neg (by omega), rnumber8_eq hs, numS_at ha]
        simp only
        rw [br_ne h1]
        rfl
      · rw [if_neg h1]
        have h1' := Decidable.not_not.1 h1
        by_cases h2 : (numL (b.drop a)).1 < l[i].2.1 ∨ l[i].2.2.1 < (numL (b.drop a)).1
        · rw [if_pos h2]
          refine .now fun m => ?_
          rw [show run_tutorref08_take K0 (m + 1) = s_tutorref08_take_3 (run_tutorref08_take K0 m) K0 from rfl]
          unfold s_tutorref08_take_3
          rw [br_pos (by omega), br_pos (by omega), Int.toNat_natCast, getD_of _ hlt, br_neg (by omega), rnumber8_eq hs, numS_at ha]
          simp only
          rw [br_ne' h1', br_pos (by omega)]
          by_cases h3 : (numL (b.drop a)).1 < l[i].2.1
          · rw [br_pos h3, br_pos (by omega)]
            rfl
          · rw [br_neg h3, br_pos (by omega), br_pos (show (numL (b.drop a)).1 > l[i].2.2.1 by omega), br_pos (by omega)]
            rfl
        · rw [if_neg h2]
          simp only [bindR_inr]
          have hle := numL_le (b.drop a)
          rw [List.length_drop] at hle
          refine .step (fun m => ?_) (ih (i + 1) (a + (numL (b.drop a)).2.1) (ns ++ [(numL (b.drop a)).1]) (by omega) (by omega) (by simp; omega))
          rw [show run_tutorref08_take K0 (m + 1) = s_tutorref08_take_3 (run_tutorref08_take K0 m) K0 from rfl]
          unfold s_tutorref08_take_3
          rw [br_pos (by omega), br_pos (by omega), Int.toNat_natCast, getD_of _ hlt, br_neg (by omega), rnumber8_eq hs, numS_at ha]
          simp only
          rw [br_ne' h1', br_pos (by omega), br_neg (show ¬ (numL (b.drop a)).1 < l[i].2.1 by omega), br_pos (by omega), br_neg (show ¬ (numL (b.drop a)).1 > l[i].2.2.1 by omega), br_pos (by simp [lim]; omega), wr ((i : Int) + 1) (by omega) (by omega)]
          rfl

theorem take_eq {R : Type} {b : List Int} (hb : b.length ≤ 16777216) {l : List Pc} (hl : l.length ≤ 1000) (hp : ∀ p ∈ l, p.1.size ≤ 1000) (K0 : Int → Int → List Int → Option R) {a : Nat} (ha : a ≤ b.length) :
    l_tutorref08_take b (a : Int) l K0 = match takeS b l a [] with | .inl e => K0 e.2 e.1 [] | .inr q => K0 (q.1 : Int) 0 q.2 :=
  evl_eq (Reach.of_eq (take_run hb l hl hp K0 l.length 0 a [] (by omega) ha (by simp)) (by rw [List.drop_zero]))

abbrev LT_tutorref08_Import := {R : Type} → (List Int) → (Int → Int → Int → Int → Int → Int → (List Int) → (List Int) → Option R) → Option R
abbrev GT_tutorref08_Import_4 (R : Type) := (List Int) → Int → Int → Int → Int → (List Int) → (List Int) → ByteArray → Int → Int → Int → ByteArray → Int → Int → Int → ByteArray → Int → Int → Int → Option R
abbrev GT_tutorref08_Import_5 (R : Type) := (List Int) → Int → Int → Int → Int → (List Int) → (List Int) → ByteArray → Int → Int → Int → ByteArray → Int → Int → Int → ByteArray → Int → Int → Int → ByteArray → Int → Int → Int → ByteArray → Int → Int → Int → Option R
abbrev GT_tutorref08_Import_12 (R : Type) := (List Int) → Int → Int → Int → Int → Int → Int → (List Int) → (List Int) → ByteArray → Int → Int → Int → ByteArray → Int → Int → Int → Int → Int → Int → Int → (List Int) → (List Int) → (List Int) → Option R
abbrev GT_tutorref08_Import_14 (R : Type) := (List Int) → Int → Int → Int → Int → Int → (List Int) → (List Int) → ByteArray → Int → Int → Int → ByteArray → Int → Int → Int → Int → Int → Int → Int → (List Int) → (List Int) → (List Int) → Option R
abbrev GT_tutorref08_Import_17 (R : Type) := (List Int) → Int → Int → Int → Int → Int → (List Int) → (List Int) → ByteArray → Int → Int → Int → ByteArray → Int → Int → Int → Int → Int → Int → Int → (List Int) → (List Int) → Option R
abbrev GT_tutorref08_Import_18 (R : Type) := (List Int) → Int → Int → Int → Int → Int → (List Int) → (List Int) → ByteArray → Int → Int → Int → ByteArray → Int → Int → Int → Int → Int → Int → Int → (List Int) → (List Int) → ByteArray → Int → Int → Int → ByteArray → Int → Int → Int → Option R
abbrev GT_tutorref08_Import_20 (R : Type) := (List Int) → Int → Int → Int → Int → Int → Int → (List Int) → (List Int) → ByteArray → Int → Int → Int → ByteArray → Int → Int → Int → Int → Int → Int → Int → (List Int) → (List Int) → ByteArray → Int → Int → Int → ByteArray → Int → Int → Int → (List (ByteArray × (Int × (Int × Int)))) → Option R
abbrev GT_tutorref08_Import_24 (R : Type) := (List Int) → Int → Int → Int → Int → Int → Int → (List Int) → (List Int) → ByteArray → Int → Int → Int → ByteArray → Int → Int → Int → Int → Int → Int → Int → (List Int) → (List Int) → ByteArray → Int → Int → Int → ByteArray → Int → Int → Int → (List (ByteArray × (Int × (Int × Int)))) → Option R
abbrev GT_tutorref08_Import_31 (R : Type) := (List Int) → Int → Int → Int → Int → Int → Int → (List Int) → (List Int) → Int → Int → Int → Int → (List Int) → (List Int) → (List (ByteArray × (Int × (Int × Int)))) → Option R
abbrev GT_tutorref08_Import_26 (R : Type) := (List Int) → Int → Int → Int → Int → Int → Int → (List Int) → (List Int) → ByteArray → Int → Int → Int → ByteArray → Int → Int → Int → Int → Int → Int → Int → (List Int) → (List Int) → ByteArray → Int → Int → Int → ByteArray → Int → Int → Int → (List (ByteArray × (Int × (Int × Int)))) → Option R
abbrev GT_tutorref08_Import_41a (R : Type) := (List Int) → Int → Int → Nat → Int → Int → Int → Int → Int → (List Int) → (List Int) → Int → Int → Int → Int → (List Int) → (List Int) → (List (ByteArray × (Int × (Int × Int)))) → (List Int) → Option R
abbrev GT_tutorref08_Import_41b (R : Type) := (List Int) → Int → Int → Int → Int → Int → Int → Int → (List Int) → (List Int) → Int → Int → Int → Int → (List Int) → (List Int) → (List (ByteArray × (Int × (Int × Int)))) → (List Int) → Option R
abbrev GT_tutorref08_Import_27 (R : Type) := (List Int) → Int → Int → Int → Int → Int → Int → (List Int) → (List Int) → ByteArray → Int → Int → Int → ByteArray → Int → Int → Int → Int → Int → Int → Int → (List Int) → (List Int) → ByteArray → Int → Int → Int → ByteArray → Int → Int → Int → (List (ByteArray × (Int × (Int × Int)))) → Option R
/-- tutor/tutorref08.Import -/
def s_tutorref08_Import_4 {R : Type} (g20_4 : GT_tutorref08_Import_4 R) (g20_5 : GT_tutorref08_Import_5 R) (g20_12 : GT_tutorref08_Import_12 R) (g20_14 : GT_tutorref08_Import_14 R) (g20_17 : GT_tutorref08_Import_17 R) (g20_18 : GT_tutorref08_Import_18 R) (g20_20 : GT_tutorref08_Import_20 R) (g20_24 : GT_tutorref08_Import_24 R) (g20_31 : GT_tutorref08_Import_31 R) (g20_26 : GT_tutorref08_Import_26 R) (g20_41 : GT_tutorref08_Import_41a R) (g20_41b : GT_tutorref08_Import_41b R) (g20_27 : GT_tutorref08_Import_27 R) (K0 : Int → Int → Int → Int → Int → Int → (List Int) → (List Int) → Option R) (b : List Int) (o0 o0_1 o0_2 o0_3 : Int) (o1 o2 : List Int) (o3 : ByteArray) (o3_1 o3_2 o3_3 : Int) (o4 : ByteArray) (o4_1 o4_2 o4_3 : Int) (o5 : ByteArray) (o5_1 o5_2 o5_3 : Int) : Option R :=
  g20_5 b o0 o0_1 o0_2 o0_3 o1 o2 o3 o3_1 o3_2 o3_3 o4 o4_1 o4_2 o4_3 o5 o5_1 o5_2 o5_3 (ByteArray.mk #[32]) 0 0 0 (ByteArray.mk #[10]) 0 0 0

/-- tutor/tutorref08.Import -/
def s_tutorref08_Import_5 {R : Type} (g20_4 : GT_tutorref08_Import_4 R) (g20_5 : GT_tutorref08_Import_5 R) (g20_12 : GT_tutorref08_Import_12 R) (g20_14 : GT_tutorref08_Import_14 R) (g20_17 : GT_tutorref08_Import_17 R) (g20_18 : GT_tutorref08_Import_18 R) (g20_20 : GT_tutorref08_Import_20 R) (g20_24 : GT_tutorref08_Import_24 R) (g20_31 : GT_tutorref08_Import_31 R) (g20_26 : GT_tutorref08_Import_26 R) (g20_41 : GT_tutorref08_Import_41a R) (g20_41b : GT_tutorref08_Import_41b R) (g20_27 : GT_tutorref08_Import_27 R) (K0 : Int → Int → Int → Int → Int → Int → (List Int) → (List Int) → Option R) (b : List Int) (o0 o0_1 o0_2 o0_3 : Int) (o1 o2 : List Int) (o3 : ByteArray) (o3_1 o3_2 o3_3 : Int) (o4 : ByteArray) (o4_1 o4_2 o4_3 : Int) (o5 : ByteArray) (o5_1 o5_2 o5_3 : Int) (o6 : ByteArray) (o6_1 o6_2 o6_3 : Int) (o7 : ByteArray) (o7_1 o7_2 o7_3 : Int) : Option R :=
  bi (decide ((b.length : Int) > 0))
   (bi (decide (0 ≤ (0 : Int) ∧ (0 : Int) < ((b.length : Nat) : Int)))
    (bi ((b.getD 0 0) == 109)
     (l_tutorref08_take b 0 [((ByteArray.mk #[109, 101, 97, 108, 121, 32]), (0, (0, 0))), (o3, (o3_1, (o3_2, o3_3))), (o6, (o6_1, (o6_2, o6_3))), (o4, (o4_1, (o4_2, o4_3))), (o6, (o6_1, (o6_2, o6_3))), (o5, (o5_1, (o5_2, o5_3))), (o7, (o7_1, (o7_2, o7_3)))]
      (fun r1 r2 r3 =>
       g20_12 b r1 r2 o0 o0_1 o0_2 o0_3 o1 o2 o6 o6_1 o6_2 o6_3 o7 o7_1 o7_2 o7_3 2 0 2 0 ([] : List Int) ([] : List Int) r3))
     (l_tutorref08_take b 0 [((ByteArray.mk #[100, 102, 97, 32]), (0, (0, 0))), (o3, (o3_1, (o3_2, o3_3))), (o6, (o6_1, (o6_2, o6_3))), (o5, (o5_1, (o5_2, o5_3))), (o7, (o7_1, (o7_2, o7_3)))]
      (fun r4 r5 r6 =>
       g20_12 b r4 r5 o0 o0_1 o0_2 o0_3 o1 o2 o6 o6_1 o6_2 o6_3 o7 o7_1 o7_2 o7_3 1 0 2 0 ([] : List Int) ([] : List Int) r6)))
    none)
   (l_tutorref08_take b 0 [((ByteArray.mk #[100, 102, 97, 32]), (0, (0, 0))), (o3, (o3_1, (o3_2, o3_3))), (o6, (o6_1, (o6_2, o6_3))), (o5, (o5_1, (o5_2, o5_3))), (o7, (o7_1, (o7_2, o7_3)))]
    (fun r7 r8 r9 =>
     g20_12 b r7 r8 o0 o0_1 o0_2 o0_3 o1 o2 o6 o6_1 o6_2 o6_3 o7 o7_1 o7_2 o7_3 1 0 2 0 ([] : List Int) ([] : List Int) r9))

/-- tutor/tutorref08.Import -/
def s_tutorref08_Import_12 {R : Type} (g20_4 : GT_tutorref08_Import_4 R) (g20_5 : GT_tutorref08_Import_5 R) (g20_12 : GT_tutorref08_Import_12 R) (g20_14 : GT_tutorref08_Import_14 R) (g20_17 : GT_tutorref08_Import_17 R) (g20_18 : GT_tutorref08_Import_18 R) (g20_20 : GT_tutorref08_Import_20 R) (g20_24 : GT_tutorref08_Import_24 R) (g20_31 : GT_tutorref08_Import_31 R) (g20_26 : GT_tutorref08_Import_26 R) (g20_41 : GT_tutorref08_Import_41a R) (g20_41b : GT_tutorref08_Import_41b R) (g20_27 : GT_tutorref08_Import_27 R) (K0 : Int → Int → Int → Int → Int → Int → (List Int) → (List Int) → Option R) (b : List Int) (vat e o0 o0_1 o0_2 o0_3 : Int) (o1 o2 : List Int) (o3 : ByteArray) (o3_1 o3_2 o3_3 : Int) (o4 : ByteArray) (o4_1 o4_2 o4_3 o5 o5_1 o5_2 o5_3 : Int) (o6 o7 o8 : List Int) : Option R :=
  bi (e != 0)
   (K0 0 0 0 0 e vat ([] : List Int) ([] : List Int))
   (g20_14 b vat o0 o0_1 o0_2 o0_3 o1 o2 o3 o3_1 o3_2 o3_3 o4 o4_1 o4_2 o4_3 o5 o5_1 o5_2 o5_3 o6 o7 o8)

/-- tutor/tutorref08.Import -/
def s_tutorref08_Import_14 {R : Type} (g20_4 : GT_tutorref08_Import_4 R) (g20_5 : GT_tutorref08_Import_5 R) (g20_12 : GT_tutorref08_Import_12 R) (g20_14 : GT_tutorref08_Import_14 R) (g20_17 : GT_tutorref08_Import_17 R) (g20_18 : GT_tutorref08_Import_18 R) (g20_20 : GT_tutorref08_Import_20 R) (g20_24 : GT_tutorref08_Import_24 R) (g20_31 : GT_tutorref08_Import_31 R) (g20_26 : GT_tutorref08_Import_26 R) (g20_41 : GT_tutorref08_Import_41a R) (g20_41b : GT_tutorref08_Import_41b R) (g20_27 : GT_tutorref08_Import_27 R) (K0 : Int → Int → Int → Int → Int → Int → (List Int) → (List Int) → Option R) (b : List Int) (vat o0 o0_1 o0_2 o0_3 : Int) (o1 o2 : List Int) (o3 : ByteArray) (o3_1 o3_2 o3_3 : Int) (o4 : ByteArray) (o4_1 o4_2 o4_3 o5 o5_1 o5_2 o5_3 : Int) (o6 o7 o8 : List Int) : Option R :=
  bi (decide (0 ≤ (0 : Int) ∧ (0 : Int) < ((o8.length : Nat) : Int)))
   (bi (decide (0 ≤ (IntKind.i64.wrap ((o8.length : Int) - 1)) ∧ (IntKind.i64.wrap ((o8.length : Int) - 1)) < ((o8.length : Nat) : Int)))
    (twice
     (bi (o5 == 2)
      (bi (decide (0 ≤ (1 : Int) ∧ (1 : Int) < ((o8.length : Nat) : Int)))
       (g20_17 b vat o0 o0_1 o0_2 o0_3 o1 o2 o3 o3_1 o3_2 o3_3 o4 o4_1 o4_2 o4_3 o5 (o8.getD 0 0) (o8.getD 1 0) (o8.getD ((IntKind.i64.wrap ((o8.length : Int) - 1)).toNat) 0) o6 o7)
       none)
      (g20_17 b vat o0 o0_1 o0_2 o0_3 o1 o2 o3 o3_1 o3_2 o3_3 o4 o4_1 o4_2 o4_3 o5 (o8.getD 0 0) o5_2 (o8.getD ((IntKind.i64.wrap ((o8.length : Int) - 1)).toNat) 0) o6 o7)))
    none)
   none

/-- tutor/tutorref08.Import -/
def s_tutorref08_Import_17 {R : Type} (g20_4 : GT_tutorref08_Import_4 R) (g20_5 : GT_tutorref08_Import_5 R) (g20_12 : GT_tutorref08_Import_12 R) (g20_14 : GT_tutorref08_Import_14 R) (g20_17 : GT_tutorref08_Import_17 R) (g20_18 : GT_tutorref08_Import_18 R) (g20_20 : GT_tutorref08_Import_20 R) (g20_24 : GT_tutorref08_Import_24 R) (g20_31 : GT_tutorref08_Import_31 R) (g20_26 : GT_tutorref08_Import_26 R) (g20_41 : GT_tutorref08_Import_41a R) (g20_41b : GT_tutorref08_Import_41b R) (g20_27 : GT_tutorref08_Import_27 R) (K0 : Int → Int → Int → Int → Int → Int → (List Int) → (List Int) → Option R) (b : List Int) (vat o0 o0_1 o0_2 o0_3 : Int) (o1 o2 : List Int) (o3 : ByteArray) (o3_1 o3_2 o3_3 : Int) (o4 : ByteArray) (o4_1 o4_2 o4_3 o5 o5_1 o5_2 o5_3 : Int) (o6 o7 : List Int) : Option R :=
  both
   (twice
    (g20_18 b vat o0 o0_1 o0_2 o0_3 o1 o2 o3 o3_1 o3_2 o3_3 o4 o4_1 o4_2 o4_3 o5 o5_1 o5_2 o5_3 o6 o7 ByteArray.empty 0 (IntKind.i64.wrap (o5_3 - 1)) 32 ByteArray.empty 0 (IntKind.i64.wrap (o5_2 - 1)) 33))
   (twice
    (thrice
     (g20_18 b vat o0 o0_1 o0_2 o0_3 o1 o2 o3 o3_1 o3_2 o3_3 o4 o4_1 o4_2 o4_3 o5 o5_1 o5_2 o5_3 o6 o7 ByteArray.empty 0 (IntKind.i64.wrap (o5_3 - 1)) 32 ByteArray.empty 0 (IntKind.i64.wrap (o5_2 - 1)) 33)))

/-- tutor/tutorref08.Import -/
def s_tutorref08_Import_18 {R : Type} (g20_4 : GT_tutorref08_Import_4 R) (g20_5 : GT_tutorref08_Import_5 R) (g20_12 : GT_tutorref08_Import_12 R) (g20_14 : GT_tutorref08_Import_14 R) (g20_17 : GT_tutorref08_Import_17 R) (g20_18 : GT_tutorref08_Import_18 R) (g20_20 : GT_tutorref08_Import_20 R) (g20_24 : GT_tutorref08_Import_24 R) (g20_31 : GT_tutorref08_Import_31 R) (g20_26 : GT_tutorref08_Import_26 R) (g20_41 : GT_tutorref08_Import_41a R) (g20_41b : GT_tutorref08_Import_41b R) (g20_27 : GT_tutorref08_Import_27 R) (K0 : Int → Int → Int → Int → Int → Int → (List Int) → (List Int) → Option R) (b : List Int) (vat o0 o0_1 o0_2 o0_3 : Int) (o1 o2 : List Int) (o3 : ByteArray) (o3_1 o3_2 o3_3 : Int) (o4 : ByteArray) (o4_1 o4_2 o4_3 o5 o5_1 o5_2 o5_3 : Int) (o6 o7 : List Int) (o8 : ByteArray) (o8_1 o8_2 o8_3 : Int) (o9 : ByteArray) (o9_1 o9_2 o9_3 : Int) : Option R :=
  g20_20 b vat 0 o0 o0_1 o0_2 o0_3 o1 o2 o3 o3_1 o3_2 o3_3 o4 o4_1 o4_2 o4_3 o5 o5_1 o5_2 o5_3 o6 o7 o8 o8_1 o8_2 o8_3 o9 o9_1 o9_2 o9_3 ([] : List (ByteArray × (Int × (Int × Int))))

/-- tutor/tutorref08.Import -/
def s_tutorref08_Import_20 {R : Type} (g20_4 : GT_tutorref08_Import_4 R) (g20_5 : GT_tutorref08_Import_5 R) (g20_12 : GT_tutorref08_Import_12 R) (g20_14 : GT_tutorref08_Import_14 R) (g20_17 : GT_tutorref08_Import_17 R) (g20_18 : GT_tutorref08_Import_18 R) (g20_20 : GT_tutorref08_Import_20 R) (g20_24 : GT_tutorref08_Import_24 R) (g20_31 : GT_tutorref08_Import_31 R) (g20_26 : GT_tutorref08_Import_26 R) (g20_41 : GT_tutorref08_Import_41a R) (g20_41b : GT_tutorref08_Import_41b R) (g20_27 : GT_tutorref08_Import_27 R) (K0 : Int → Int → Int → Int → Int → Int → (List Int) → (List Int) → Option R) (b : List Int) (vat x o0 o0_1 o0_2 o0_3 : Int) (o1 o2 : List Int) (o3 : ByteArray) (o3_1 o3_2 o3_3 : Int) (o4 : ByteArray) (o4_1 o4_2 o4_3 o5 o5_1 o5_2 o5_3 : Int) (o6 o7 : List Int) (o8 : ByteArray) (o8_1 o8_2 o8_3 : Int) (o9 : ByteArray) (o9_1 o9_2 o9_3 : Int) (o10 : List (ByteArray × (Int × (Int × Int)))) : Option R :=
  bi (decide (x < o5_1))
   (bi (o5 == 1)
    (bi (x == 0)
     (bi (decide ((o10.length + [(o9, (o9_1, (o9_2, o9_3)))].length) * 40 ≤ lim))
      (g20_24 b vat x o0 o0_1 o0_2 o0_3 o1 o2 o3 o3_1 o3_2 o3_3 o4 o4_1 o4_2 o4_3 o5 o5_1 o5_2 o5_3 o6 o7 o8 o8_1 o8_2 o8_3 o9 o9_1 o9_2 o9_3 (o10 ++ [(o9, (o9_1, (o9_2, o9_3)))]))
      none)
     (g20_24 b vat x o0 o0_1 o0_2 o0_3 o1 o2 o3 o3_1 o3_2 o3_3 o4 o4_1 o4_2 o4_3 o5 o5_1 o5_2 o5_3 o6 o7 o8 o8_1 o8_2 o8_3 o9 o9_1 o9_2 o9_3 o10))
    (g20_24 b vat x o0 o0_1 o0_2 o0_3 o1 o2 o3 o3_1 o3_2 o3_3 o4 o4_1 o4_2 o4_3 o5 o5_1 o5_2 o5_3 o6 o7 o8 o8_1 o8_2 o8_3 o9 o9_1 o9_2 o9_3 o10))
   (bi (decide ((o10.length + [(o4, (o4_1, (o4_2, o4_3)))].length) * 40 ≤ lim))
    (g20_31 b vat 0 o0 o0_1 o0_2 o0_3 o1 o2 o5 o5_1 o5_2 o5_3 o6 o7 (o10 ++ [(o4, (o4_1, (o4_2, o4_3)))]))
    none)

/-- tutor/tutorref08.Import -/
def s_tutorref08_Import_24 {R : Type} (g20_4 : GT_tutorref08_Import_4 R) (g20_5 : GT_tutorref08_Import_5 R) (g20_12 : GT_tutorref08_Import_12 R) (g20_14 : GT_tutorref08_Import_14 R) (g20_17 : GT_tutorref08_Import_17 R) (g20_18 : GT_tutorref08_Import_18 R) (g20_20 : GT_tutorref08_Import_20 R) (g20_24 : GT_tutorref08_Import_24 R) (g20_31 : GT_tutorref08_Import_31 R) (g20_26 : GT_tutorref08_Import_26 R) (g20_41 : GT_tutorref08_Import_41a R) (g20_41b : GT_tutorref08_Import_41b R) (g20_27 : GT_tutorref08_Import_27 R) (K0 : Int → Int → Int → Int → Int → Int → (List Int) → (List Int) → Option R) (b : List Int) (vat x o0 o0_1 o0_2 o0_3 : Int) (o1 o2 : List Int) (o3 : ByteArray) (o3_1 o3_2 o3_3 : Int) (o4 : ByteArray) (o4_1 o4_2 o4_3 o5 o5_1 o5_2 o5_3 : Int) (o6 o7 : List Int) (o8 : ByteArray) (o8_1 o8_2 o8_3 : Int) (o9 : ByteArray) (o9_1 o9_2 o9_3 : Int) (o10 : List (ByteArray × (Int × (Int × Int)))) : Option R :=
  bi (o5 == 1)
   (bi (decide ((o10.length + [(o3, (o3_1, (o3_2, o3_3)))].length) * 40 ≤ lim))
    (g20_26 b vat x o0 o0_1 o0_2 o0_3 o1 o2 o3 o3_1 o3_2 o3_3 o4 o4_1 o4_2 o4_3 o5 o5_1 o5_2 o5_3 o6 o7 o8 o8_1 o8_2 o8_3 o9 o9_1 o9_2 o9_3 (o10 ++ [(o3, (o3_1, (o3_2, o3_3)))]))
    none)
   (bi (decide (x > 0))
    (bi (decide ((o10.length + [(o3, (o3_1, (o3_2, o3_3)))].length) * 40 ≤ lim))
     (g20_26 b vat x o0 o0_1 o0_2 o0_3 o1 o2 o3 o3_1 o3_2 o3_3 o4 o4_1 o4_2 o4_3 o5 o5_1 o5_2 o5_3 o6 o7 o8 o8_1 o8_2 o8_3 o9 o9_1 o9_2 o9_3 (o10 ++ [(o3, (o3_1, (o3_2, o3_3)))]))
     none)
    (g20_26 b vat x o0 o0_1 o0_2 o0_3 o1 o2 o3 o3_1 o3_2 o3_3 o4 o4_1 o4_2 o4_3 o5 o5_1 o5_2 o5_3 o6 o7 o8 o8_1 o8_2 o8_3 o9 o9_1 o9_2 o9_3 o10))

/-- tutor/tutorref08.Import -/
def s_tutorref08_Import_31 {R : Type} (g20_4 : GT_tutorref08_Import_4 R) (g20_5 : GT_tutorref08_Import_5 R) (g20_12 : GT_tutorref08_Import_12 R) (g20_14 : GT_tutorref08_Import_14 R) (g20_17 : GT_tutorref08_Import_17 R) (g20_18 : GT_tutorref08_Import_18 R) (g20_20 : GT_tutorref08_Import_20 R) (g20_24 : GT_tutorref08_Import_24 R) (g20_31 : GT_tutorref08_Import_31 R) (g20_26 : GT_tutorref08_Import_26 R) (g20_41 : GT_tutorref08_Import_41a R) (g20_41b : GT_tutorref08_Import_41b R) (g20_27 : GT_tutorref08_Import_27 R) (K0 : Int → Int → Int → Int → Int → Int → (List Int) → (List Int) → Option R) (b : List Int) (vat s o0 o0_1 o0_2 o0_3 : Int) (o1 o2 : List Int) (o3 o3_1 o3_2 o3_3 : Int) (o4 o5 : List Int) (o6 : List (ByteArray × (Int × (Int × Int)))) : Option R :=
  bi (decide (s < o3_3))
   (l_tutorref08_take b vat o6
    (fun r10 r11 r12 =>
     bi (r11 != 0)
      (K0 0 0 0 0 r11 r10 ([] : List Int) ([] : List Int))
      (bi (o3 == 1)
       (bi (decide (0 ≤ (0 : Int) ∧ (0 : Int) < ((r12.length : Nat) : Int)))
        (bi (decide ((o5.length + [r12.getD 0 0].length) * 8 ≤ lim))
         (bi (decide (0 ≤ (1 : Int) ∧ (1 : Int) ≤ ((r12.length : Nat) : Int)))
          (g20_41 b r10 s (r12.length - 1) 0 o0 o0_1 o0_2 o0_3 o1 o2 o3 o3_1 o3_2 o3_3 o4 (o5 ++ [r12.getD 0 0]) o6 r12)
          none)
         none)
        none)
       (g20_41b b r10 s 0 o0 o0_1 o0_2 o0_3 o1 o2 o3 o3_1 o3_2 o3_3 o4 o5 o6 r12))))
   (bi (decide (vat < (b.length : Int)))
    (K0 0 0 0 0 6 vat ([] : List Int) ([] : List Int))
    (K0 o3 o3_1 o3_2 o3_3 0 vat o4 o5))

/-- tutor/tutorref08.Import -/
def s_tutorref08_Import_26 {R : Type} (g20_4 : GT_tutorref08_Import_4 R) (g20_5 : GT_tutorref08_Import_5 R) (g20_12 : GT_tutorref08_Import_12 R) (g20_14 : GT_tutorref08_Import_14 R) (g20_17 : GT_tutorref08_Import_17 R) (g20_18 : GT_tutorref08_Import_18 R) (g20_20 : GT_tutorref08_Import_20 R) (g20_24 : GT_tutorref08_Import_24 R) (g20_31 : GT_tutorref08_Import_31 R) (g20_26 : GT_tutorref08_Import_26 R) (g20_41 : GT_tutorref08_Import_41a R) (g20_41b : GT_tutorref08_Import_41b R) (g20_27 : GT_tutorref08_Import_27 R) (K0 : Int → Int → Int → Int → Int → Int → (List Int) → (List Int) → Option R) (b : List Int) (vat x o0 o0_1 o0_2 o0_3 : Int) (o1 o2 : List Int) (o3 : ByteArray) (o3_1 o3_2 o3_3 : Int) (o4 : ByteArray) (o4_1 o4_2 o4_3 o5 o5_1 o5_2 o5_3 : Int) (o6 o7 : List Int) (o8 : ByteArray) (o8_1 o8_2 o8_3 : Int) (o9 : ByteArray) (o9_1 o9_2 o9_3 : Int) (o10 : List (ByteArray × (Int × (Int × Int)))) : Option R :=
  bi (decide ((o10.length + [(o8, (o8_1, (o8_2, o8_3)))].length) * 40 ≤ lim))
   (g20_27 b vat x o0 o0_1 o0_2 o0_3 o1 o2 o3 o3_1 o3_2 o3_3 o4 o4_1 o4_2 o4_3 o5 o5_1 o5_2 o5_3 o6 o7 o8 o8_1 o8_2 o8_3 o9 o9_1 o9_2 o9_3 (o10 ++ [(o8, (o8_1, (o8_2, o8_3)))]))
   none

/-- tutor/tutorref08.Import -/
def s_tutorref08_Import_41a {R : Type} (g20_4 : GT_tutorref08_Import_4 R) (g20_5 : GT_tutorref08_Import_5 R) (g20_12 : GT_tutorref08_Import_12 R) (g20_14 : GT_tutorref08_Import_14 R) (g20_17 : GT_tutorref08_Import_17 R) (g20_18 : GT_tutorref08_Import_18 R) (g20_20 : GT_tutorref08_Import_20 R) (g20_24 : GT_tutorref08_Import_24 R) (g20_31 : GT_tutorref08_Import_31 R) (g20_26 : GT_tutorref08_Import_26 R) (g20_41 : GT_tutorref08_Import_41a R) (g20_41b : GT_tutorref08_Import_41b R) (g20_27 : GT_tutorref08_Import_27 R) (K0 : Int → Int → Int → Int → Int → Int → (List Int) → (List Int) → Option R) (b : List Int) (vat s : Int) (l : Nat) (i o0 o0_1 o0_2 o0_3 : Int) (o1 o2 : List Int) (o3 o3_1 o3_2 o3_3 : Int) (o4 o5 : List Int) (o6 : List (ByteArray × (Int × (Int × Int)))) (o7 : List Int) : Option R :=
  bi (decide (i < ((l : Nat) : Int)))
   (bi (o3 == 2)
    (bi ((i.tmod 2) == 1)
     (bi (decide (0 ≤ i ∧ i < ((l : Nat) : Int)))
      (bi (decide ((o5.length + [o7.getD (1 + i.toNat) 0].length) * 8 ≤ lim))
       (g20_41 b vat s l (IntKind.i64.wrap (i + 1)) o0 o0_1 o0_2 o0_3 o1 o2 o3 o3_1 o3_2 o3_3 o4 (o5 ++ [o7.getD (1 + i.toNat) 0]) o6 o7)
       none)
      none)
     (bi (decide (0 ≤ i ∧ i < ((l : Nat) : Int)))
      (bi (decide ((o4.length + [o7.getD (1 + i.toNat) 0].length) * 8 ≤ lim))
       (g20_41 b vat s l (IntKind.i64.wrap (i + 1)) o0 o0_1 o0_2 o0_3 o1 o2 o3 o3_1 o3_2 o3_3 (o4 ++ [o7.getD (1 + i.toNat) 0]) o5 o6 o7)
       none)
      none))
    (bi (decide (0 ≤ i ∧ i < ((l : Nat) : Int)))
     (bi (decide ((o4.length + [o7.getD (1 + i.toNat) 0].length) * 8 ≤ lim))
      (g20_41 b vat s l (IntKind.i64.wrap (i + 1)) o0 o0_1 o0_2 o0_3 o1 o2 o3 o3_1 o3_2 o3_3 (o4 ++ [o7.getD (1 + i.toNat) 0]) o5 o6 o7)
      none)
     none))
   (g20_31 b vat (IntKind.i64.wrap (s + 1)) o0 o0_1 o0_2 o0_3 o1 o2 o3 o3_1 o3_2 o3_3 o4 o5 o6)

/-- tutor/tutorref08.Import -/
def s_tutorref08_Import_41b {R : Type} (g20_4 : GT_tutorref08_Import_4 R) (g20_5 : GT_tutorref08_Import_5 R) (g20_12 : GT_tutorref08_Import_12 R) (g20_14 : GT_tutorref08_Import_14 R) (g20_17 : GT_tutorref08_Import_17 R) (g20_18 : GT_tutorref08_Import_18 R) (g20_20 : GT_tutorref08_Import_20 R) (g20_24 : GT_tutorref08_Import_24 R) (g20_31 : GT_tutorref08_Import_31 R) (g20_26 : GT_tutorref08_Import_26 R) (g20_41 : GT_tutorref08_Import_41a R) (g20_41b : GT_tutorref08_Import_41b R) (g20_27 : GT_tutorref08_Import_27 R) (K0 : Int → Int → Int → Int → Int → Int → (List Int) → (List Int) → Option R) (b : List Int) (vat s i o0 o0_1 o0_2 o0_3 : Int) (o1 o2 : List Int) (o3 o3_1 o3_2 o3_3 : Int) (o4 o5 : List Int) (o6 : List (ByteArray × (Int × (Int × Int)))) (o7 : List Int) : Option R :=
  bi (decide (i < (o7.length : Int)))
   (bi (o3 == 2)
    (bi ((i.tmod 2) == 1)
     (bi (decide (0 ≤ i ∧ i < ((o7.length : Nat) : Int)))
      (bi (decide ((o5.length + [o7.getD i.toNat 0].length) * 8 ≤ lim))
       (g20_41b b vat s (IntKind.i64.wrap (i + 1)) o0 o0_1 o0_2 o0_3 o1 o2 o3 o3_1 o3_2 o3_3 o4 (o5 ++ [o7.getD i.toNat 0]) o6 o7)
       none)
      none)
     (bi (decide (0 ≤ i ∧ i < ((o7.length : Nat) : Int)))
      (bi (decide ((o4.length + [o7.getD i.toNat 0].length) * 8 ≤ lim))
       (g20_41b b vat s (IntKind.i64.wrap (i + 1)) o0 o0_1 o0_2 o0_3 o1 o2 o3 o3_1 o3_2 o3_3 (o4 ++ [o7.getD i.toNat 0]) o5 o6 o7)
       none)
      none))
    (bi (decide (0 ≤ i ∧ i < ((o7.length : Nat) : Int)))
     (bi (decide ((o4.length + [o7.getD i.toNat 0].length) * 8 ≤ lim))
      (g20_41b b vat s (IntKind.i64.wrap (i + 1)) o0 o0_1 o0_2 o0_3 o1 o2 o3 o3_1 o3_2 o3_3 (o4 ++ [o7.getD i.toNat 0]) o5 o6 o7)
      none)
     none))
   (g20_31 b vat (IntKind.i64.wrap (s + 1)) o0 o0_1 o0_2 o0_3 o1 o2 o3 o3_1 o3_2 o3_3 o4 o5 o6)

/-- tutor/tutorref08.Import -/
def s_tutorref08_Import_27 {R : Type} (g20_4 : GT_tutorref08_Import_4 R) (g20_5 : GT_tutorref08_Import_5 R) (g20_12 : GT_tutorref08_Import_12 R) (g20_14 : GT_tutorref08_Import_14 R) (g20_17 : GT_tutorref08_Import_17 R) (g20_18 : GT_tutorref08_Import_18 R) (g20_20 : GT_tutorref08_Import_20 R) (g20_24 : GT_tutorref08_Import_24 R) (g20_31 : GT_tutorref08_Import_31 R) (g20_26 : GT_tutorref08_Import_26 R) (g20_41 : GT_tutorref08_Import_41a R) (g20_41b : GT_tutorref08_Import_41b R) (g20_27 : GT_tutorref08_Import_27 R) (K0 : Int → Int → Int → Int → Int → Int → (List Int) → (List Int) → Option R) (b : List Int) (vat x o0 o0_1 o0_2 o0_3 : Int) (o1 o2 : List Int) (o3 : ByteArray) (o3_1 o3_2 o3_3 : Int) (o4 : ByteArray) (o4_1 o4_2 o4_3 o5 o5_1 o5_2 o5_3 : Int) (o6 o7 : List Int) (o8 : ByteArray) (o8_1 o8_2 o8_3 : Int) (o9 : ByteArray) (o9_1 o9_2 o9_3 : Int) (o10 : List (ByteArray × (Int × (Int × Int)))) : Option R :=
  bi (o5 == 2)
   (bi (decide ((o10.length + [((ByteArray.mk #[47]), (0, (0, 0))), (o9, (o9_1, (o9_2, o9_3)))].length) * 40 ≤ lim))
    (g20_20 b vat (IntKind.i64.wrap (x + 1)) o0 o0_1 o0_2 o0_3 o1 o2 o3 o3_1 o3_2 o3_3 o4 o4_1 o4_2 o4_3 o5 o5_1 o5_2 o5_3 o6 o7 o8 o8_1 o8_2 o8_3 o9 o9_1 o9_2 o9_3 (o10 ++ [((ByteArray.mk #[47]), (0, (0, 0))), (o9, (o9_1, (o9_2, o9_3)))]))
    none)
   (g20_20 b vat (IntKind.i64.wrap (x + 1)) o0 o0_1 o0_2 o0_3 o1 o2 o3 o3_1 o3_2 o3_3 o4 o4_1 o4_2 o4_3 o5 o5_1 o5_2 o5_3 o6 o7 o8 o8_1 o8_2 o8_3 o9 o9_1 o9_2 o9_3 o10)

/-- tutor/tutorref08.Import -/
def e_tutorref08_Import {R : Type} (g20_4 : GT_tutorref08_Import_4 R) (g20_5 : GT_tutorref08_Import_5 R) (g20_12 : GT_tutorref08_Import_12 R) (g20_14 : GT_tutorref08_Import_14 R) (g20_17 : GT_tutorref08_Import_17 R) (g20_18 : GT_tutorref08_Import_18 R) (g20_20 : GT_tutorref08_Import_20 R) (g20_24 : GT_tutorref08_Import_24 R) (g20_31 : GT_tutorref08_Import_31 R) (g20_26 : GT_tutorref08_Import_26 R) (g20_41 : GT_tutorref08_Import_41a R) (g20_41b : GT_tutorref08_Import_41b R) (g20_27 : GT_tutorref08_Import_27 R) (K0 : Int → Int → Int → Int → Int → Int → (List Int) → (List Int) → Option R) (b : List Int) : Option R :=
  bi (decide ((b.length : Int) > 16777216))
   (K0 0 0 0 0 2 0 ([] : List Int) ([] : List Int))
   (g20_4 b 0 0 0 0 ([] : List Int) ([] : List Int) ByteArray.empty 1 64 1 ByteArray.empty 1 64 33 ByteArray.empty 1 1024 3)

def run_tutorref08_Import {R : Type} (K0 : Int → Int → Int → Int → Int → Int → (List Int) → (List Int) → Option R) : Nat → ((List Int) → Int → Int → Int → Int → (List Int) → (List Int) → ByteArray → Int → Int → Int → ByteArray → Int → Int → Int → ByteArray → Int → Int → Int → Option R) × ((List Int) → Int → Int → Int → Int → (List Int) → (List Int) → ByteArray → Int → Int → Int → ByteArray → Int → Int → Int → ByteArray → Int → Int → Int → ByteArray → Int → Int → Int → ByteArray → Int → Int → Int → Option R) × ((List Int) → Int → Int → Int → Int → Int → Int → (List Int) → (List Int) → ByteArray → Int → Int → Int → ByteArray → Int → Int → Int → Int → Int → Int → Int → (List Int) → (List Int) → (List Int) → Option R) × ((List Int) → Int → Int → Int → Int → Int → (List Int) → (List Int) → ByteArray → Int → Int → Int → ByteArray → Int → Int → Int → Int → Int → Int → Int → (List Int) → (List Int) → (List Int) → Option R) × ((List Int) → Int → Int → Int → Int → Int → (List Int) → (List Int) → ByteArray → Int → Int → Int → ByteArray → Int → Int → Int → Int → Int → Int → Int → (List Int) → (List Int) → Option R) × ((List Int) → Int → Int → Int → Int → Int → (List Int) → (List Int) → ByteArray → Int → Int → Int → ByteArray → Int → Int → Int → Int → Int → Int → Int → (List Int) → (List Int) → ByteArray → Int → Int → Int → ByteArray → Int → Int → Int → Option R) × ((List Int) → Int → Int → Int → Int → Int → Int → (List Int) → (List Int) → ByteArray → Int → Int → Int → ByteArray → Int → Int → Int → Int → Int → Int → Int → (List Int) → (List Int) → ByteArray → Int → Int → Int → ByteArray → Int → Int → Int → (List (ByteArray × (Int × (Int × Int)))) → Option R) × ((List Int) → Int → Int → Int → Int → Int → Int → (List Int) → (List Int) → ByteArray → Int → Int → Int → ByteArray → Int → Int → Int → Int → Int → Int → Int → (List Int) → (List Int) → ByteArray → Int → Int → Int → ByteArray → Int → Int → Int → (List (ByteArray × (Int × (Int × Int)))) → Option R) × ((List Int) → Int → Int → Int → Int → Int → Int → (List Int) → (List Int) → Int → Int → Int → Int → (List Int) → (List Int) → (List (ByteArray × (Int × (Int × Int)))) → Option R) × ((List Int) → Int → Int → Int → Int → Int → Int → (List Int) → (List Int) → ByteArray → Int → Int → Int → ByteArray → Int → Int → Int → Int → Int → Int → Int → (List Int) → (List Int) → ByteArray → Int → Int → Int → ByteArray → Int → Int → Int → (List (ByteArray × (Int × (Int × Int)))) → Option R) × ((List Int) → Int → Int → Nat → Int → Int → Int → Int → Int → (List Int) → (List Int) → Int → Int → Int → Int → (List Int) → (List Int) → (List (ByteArray × (Int × (Int × Int)))) → (List Int) → Option R) × ((List Int) → Int → Int → Int → Int → Int → Int → Int → (List Int) → (List Int) → Int → Int → Int → Int → (List Int) → (List Int) → (List (ByteArray × (Int × (Int × Int)))) → (List Int) → Option R) × ((List Int) → Int → Int → Int → Int → Int → Int → (List Int) → (List Int) → ByteArray → Int → Int → Int → ByteArray → Int → Int → Int → Int → Int → Int → Int → (List Int) → (List Int) → ByteArray → Int → Int → Int → ByteArray → Int → Int → Int → (List (ByteArray × (Int × (Int × Int)))) → Option R)
  | 0 => (fun _ _ _ _ _ _ _ _ _ _ _ _ _ _ _ _ _ _ _ => none, fun _ _ _ _ _ _ _ _ _ _ _ _ _ _ _ _ _ _ _ _ _ _ _ _ _ _ _ => none, fun _ _ _ _ _ _ _ _ _ _ _ _ _ _ _ _ _ _ _ _ _ _ _ _ => none, fun _ _ _ _ _ _ _ _ _ _ _ _ _ _ _ _ _ _ _ _ _ _ _ => none, fun _ _ _ _ _ _ _ _ _ _ _ _ _ _ _ _ _ _ _ _ _ _ => none, fun _ _ _ _ _ _ _ _ _ _ _ _ _ _ _ _ _ _ _ _ _ _ _ _ _ _ _ _ _ _ => none, fun _ _ _ _ _ _ _ _ _ _ _ _ _ _ _ _ _ _ _ _ _ _ _ _ _ _ _ _ _ _ _ _ => none, fun _ _ _ _ _ _ _ _ _ _ _ _ _ _ _ _ _ _ _ _ _ _ _ _ _ _ _ _ _ _ _ _ => none, fun _ _ _ _ _ _ _ _ _ _ _ _ _ _ _ _ => none, fun _ _ _ _ _ _ _ _ _ _ _ _ _ _ _ _ _ _ _ _ _ _ _ _ _ _ _ _ _ _ _ _ => none, fun _ _ _ _ _ _ _ _ _ _ _ _ _ _ _ _ _ _ _ => none, fun _ _ _ _ _ _ _ _ _ _ _ _ _ _ _ _ _ _ => none, fun _ _ _ _ _ _ _ _ _ _ _ _ _ _ _ _ _ _ _ _ _ _ _ _ _ _ _ _ _ _ _ _ => none)
  | n + 1 => (s_tutorref08_Import_4 (run_tutorref08_Import K0 n).1 (run_tutorref08_Import K0 n).2.1 (run_tutorref08_Import K0 n).2.2.1 (run_tutorref08_Import K0 n).2.2.2.1 (run_tutorref08_Import K0 n).2.2.2.2.1 (run_tutorref08_Import K0 n).2.2.2.2.2.1 (run_tutorref08_Import K0 n).2.2.2.2.2.2.1 (run_tutorref08_Import K0 n).2.2.2.2.2.2.2.1 (run_tutorref08_Import K0 n).2.2.2.2.2.2.2.2.1 (run_tutorref08_Import K0 n).2.2.2.2.2.2.2.2.2.1 (run_tutorref08_Import K0 n).2.2.2.2.2.2.2.2.2.2.1 (run_tutorref08_Import K0 n).2.2.2.2.2.2.2.2.2.2.2.1 (run_tutorref08_Import K0 n).2.2.2.2.2.2.2.2.2.2.2.2 K0, s_tutorref08_Import_5 (run_tutorref08_Import K0 n).1 (run_tutorref08_Import K0 n).2.1 (run_tutorref08_Import K0 n).2.2.1 (run_tutorref08_Import K0 n).2.2.2.1 (run_tutorref08_Import K0 n).2.2.2.2.1 (run_tutorref08_Import K0 n).2.2.2.2.2.1 (run_tutorref08_Import K0 n).2.2.2.2.2.2.1 (run_tutorref08_Import K0 n).2.2.2.2.2.2.2.1 (run_tutorref08_Import K0 n).2.2.2.2.2.2.2.2.1 (run_tutorref08_Import K0 n).2.2.2.2.2.2.2.2.2.1 (run_tutorref08_Import K0 n).2.2.2.2.2.2.2.2.2.2.1 (run_tutorref08_Import K0 n).2.2.2.2.2.2.2.2.2.2.2.1 (run_tutorref08_Import K0 n).2.2.2.2.2.2.2.2.2.2.2.2 K0, s_tutorref08_Import_12 (run_tutorref08_Import K0 n).1 (run_tutorref08_Import K0 n).2.1 (run_tutorref08_Import K0 n).2.2.1 (run_tutorref08_Import K0 n).2.2.2.1 (run_tutorref08_Import K0 n).2.2.2.2.1 (run_tutorref08_Import K0 n).2.2.2.2.2.1 (run_tutorref08_Import K0 n).2.2.2.2.2.2.1 (run_tutorref08_Import K0 n).2.2.2.2.2.2.2.1 (run_tutorref08_Import K0 n).2.2.2.2.2.2.2.2.1 (run_tutorref08_Import K0 n).2.2.2.2.2.2.2.2.2.1 (run_tutorref08_Import K0 n).2.2.2.2.2.2.2.2.2.2.1 (run_tutorref08_Import K0 n).2.2.2.2.2.2.2.2.2.2.2.1 (run_tutorref08_Import K0 n).2.2.2.2.2.2.2.2.2.2.2.2 K0, s_tutorref08_Import_14 (run_tutorref08_Import K0 n).1 (run_tutorref08_Import K0 n).2.1 (run_tutorref08_Import K0 n).2.2.1 (run_tutorref08_Import K0 n).2.2.2.1 (run_tutorref08_Import K0 n).2.2.2.2.1 (run_tutorref08_Import K0 n).2.2.2.2.2.1 (run_tutorref08_Import K0 n).2.2.2.2.2.2.1 (run_tutorref08_Import K0 n).2.2.2.2.2.2.2.1 (run_tutorref08_Import K0 n).2.2.2.2.2.2.2.2.1 (run_tutorref08_Import K0 n).2.2.2.2.2.2.2.2.2.1 (run_tutorref08_Import K0 n).2.2.2.2.2.2.2.2.2.2.1 (run_tutorref08_Import K0 n).2.2.2.2.2.2.2.2.2.2.2.1 (run_tutorref08_Import K0 n).2.2.2.2.2.2.2.2.2.2.2.2 K0, s_tutorref08_Import_17 (run_tutorref08_Import K0 n).1 (run_tutorref08_Import K0 n).2.1 (run_tutorref08_Import K0 n).2.2.1 (run_tutorref08_Import K0 n).2.2.2.1 (run_tutorref08_Import K0 n).2.2.2.2.1 (run_tutorref08_Import K0 n).2.2.2.2.2.1 (run_tutorref08_Import K0 n).2.2.2.2.2.2.1 (run_tutorref08_Import K0 n).2.2.2.2.2.2.2.1 (run_tutorref08_Import K0 n).2.2.2.2.2.2.2.2.1 (run_tutorref08_Import K0 n).2.2.2.2.2.2.2.2.2.1 (run_tutorref08_Import K0 n).2.2.2.2.2.2.2.2.2.2.1 (run_tutorref08_Import K0 n).2.2.2.2.2.2.2.2.2.2.2.1 (run_tutorref08_Import K0 n).2.2.2.2.2.2.2.2.2.2.2.2 K0, s_tutorref08_Import_18 (run_tutorref08_Import K0 n).1 (run_tutorref08_Import K0 n).2.1 (run_tutorref08_Import K0 n).2.2.1 (run_tutorref08_Import K0 n).2.2.2.1 (run_tutorref08_Import K0 n).2.2.2.2.1 (run_tutorref08_Import K0 n).2.2.2.2.2.1 (run_tutorref08_Import K0 n).2.2.2.2.2.2.1 (run_tutorref08_Import K0 n).2.2.2.2.2.2.2.1 (run_tutorref08_Import K0 n).2.2.2.2.2.2.2.2.1 (run_tutorref08_Import K0 n).2.2.2.2.2.2.2.2.2.1 (run_tutorref08_Import K0 n).2.2.2.2.2.2.2.2.2.2.1 (run_tutorref08_Import K0 n).2.2.2.2.2.2.2.2.2.2.2.1 (run_tutorref08_Import K0 n).2.2.2.2.2.2.2.2.2.2.2.2 K0, s_tutorref08_Import_20 (run_tutorref08_Import K0 n).1 (run_tutorref08_Import K0 n).2.1 (run_tutorref08_Import K0 n).2.2.1 (run_tutorref08_Import K0 n).2.2.2.1 (run_tutorref08_Import K0 n).2.2.2.2.1 (run_tutorref08_Import K0 n).2.2.2.2.2.1 (run_tutorref08_Import K0 n).2.2.2.2.2.2.1 (run_tutorref08_Import K0 n).2.2.2.2.2.2.2.1 (run_tutorref08_Import K0 n).2.2.2.2.2.2.2.2.1 (run_tutorref08_Import K0 n).2.2.2.2.2.2.2.2.2.1 (run_tutorref08_Import K0 n).2.2.2.2.2.2.2.2.2.2.1 (run_tutorref08_Import K0 n).2.2.2.2.2.2.2.2.2.2.2.1 (run_tutorref08_Import K0 n).2.2.2.2.2.2.2.2.2.2.2.2 K0, s_tutorref08_Import_24 (run_tutorref08_Import K0 n).1 (run_tutorref08_Import K0 n).2.1 (run_tutorref08_Import K0 n).2.2.1 (run_tutorref08_Import K0 n).2.2.2.1 (run_tutorref08_Import K0 n).2.2.2.2.1 (run_tutorref08_Import K0 n).2.2.2.2.2.1 (run_tutorref08_Import K0 n).2.2.2.2.2.2.1 (run_tutorref08_Import K0 n).2.2.2.2.2.2.2.1 (run_tutorref08_Import K0 n).2.2.2.2.2.2.2.2.1 (run_tutorref08_Import K0 n).2.2.2.2.2.2.2.2.2.1 (run_tutorref08_Import K0 n).2.2.2.2.2.2.2.2.2.2.1 (run_tutorref08_Import K0 n).2.2.2.2.2.2.2.2.2.2.2.1 (run_tutorref08_Import K0 n).2.2.2.2.2.2.2.2.2.2.2.2 K0, s_tutorref08_Import_31 (run_tutorref08_Import K0 n).1 (run_tutorref08_Import K0 n).2.1 (run_tutorref08_Import K0 n).2.2.1 (run_tutorref08_Import K0 n).2.2.2.1 (run_tutorref08_Import K0 n).2.2.2.2.1 (run_tutorref08_Import K0 n).2.2.2.2.2.1 (run_tutorref08_Import K0 n).2.2.2.2.2.2.1 (run_tutorref08_Import K0 n).2.2.2.2.2.2.2.1 (run_tutorref08_Import K0 n).2.2.2.2.2.2.2.2.1 (run_tutorref08_Import K0 n).2.2.2.2.2.2.2.2.2.1 (run_tutorref08_Import K0 n).2.2.2.2.2.2.2.2.2.2.1 (run_tutorref08_Import K0 n).2.2.2.2.2.2.2.2.2.2.2.1 (run_tutorref08_Import K0 n).2.2.2.2.2.2.2.2.2.2.2.2 K0, s_tutorref08_Import_26 (run_tutorref08_Import K0 n).1 (run_tutorref08_Import K0 n).2.1 (run_tutorref08_Import K0 n).2.2.1 (run_tutorref08_Import K0 n).2.2.2.1 (run_tutorref08_Import K0 n).2.2.2.2.1 (run_tutorref08_Import K0 n).2.2.2.2.2.1 (run_tutorref08_Import K0 n).2.2.2.2.2.2.1 (run_tutorref08_Import K0 n).2.2.2.2.2.2.2.1 (run_tutorref08_Import K0 n).2.2.2.2.2.2.2.2.1 (run_tutorref08_Import K0 n).2.2.2.2.2.2.2.2.2.1 (run_tutorref08_Import K0 n).2.2.2.2.2.2.2.2.2.2.1 (run_tutorref08_Import K0 n).2.2.2.2.2.2.2.2.2.2.2.1 (run_tutorref08_Import K0 n).2.2.2.2.2.2.2.2.2.2.2.2 K0, s_tutorref08_Import_41a (run_tutorref08_Import K0 n).1 (run_tutorref08_Import K0 n).2.1 (run_tutorref08_Import K0 n).2.2.1 (run_tutorref08_Import K0 n).2.2.2.1 (run_tutorref08_Import K0 n).2.2.2.2.1 (run_tutorref08_Import K0 n).2.2.2.2.2.1 (run_tutorref08_Import K0 n).2.2.2.2.2.2.1 (run_tutorref08_Import K0 n).2.2.2.2.2.2.2.1 (run_tutorref08_Import K0 n).2.2.2.2.2.2.2.2.1 (run_tutorref08_Import K0 n).2.2.2.2.2.2.2.2.2.1 (run_tutorref08_Import K0 n).2.2.2.2.2.2.2.2.2.2.1 (run_tutorref08_Import K0 n).2.2.2.2.2.2.2.2.2.2.2.1 (run_tutorref08_Import K0 n).2.2.2.2.2.2.2.2.2.2.2.2 K0, s_tutorref08_Import_41b (run_tutorref08_Import K0 n).1 (run_tutorref08_Import K0 n).2.1 (run_tutorref08_Import K0 n).2.2.1 (run_tutorref08_Import K0 n).2.2.2.1 (run_tutorref08_Import K0 n).2.2.2.2.1 (run_tutorref08_Import K0 n).2.2.2.2.2.1 (run_tutorref08_Import K0 n).2.2.2.2.2.2.1 (run_tutorref08_Import K0 n).2.2.2.2.2.2.2.1 (run_tutorref08_Import K0 n).2.2.2.2.2.2.2.2.1 (run_tutorref08_Import K0 n).2.2.2.2.2.2.2.2.2.1 (run_tutorref08_Import K0 n).2.2.2.2.2.2.2.2.2.2.1 (run_tutorref08_Import K0 n).2.2.2.2.2.2.2.2.2.2.2.1 (run_tutorref08_Import K0 n).2.2.2.2.2.2.2.2.2.2.2.2 K0, s_tutorref08_Import_27 (run_tutorref08_Import K0 n).1 (run_tutorref08_Import K0 n).2.1 (run_tutorref08_Import K0 n).2.2.1 (run_tutorref08_Import K0 n).2.2.2.1 (run_tutorref08_Import K0 n).2.2.2.2.1 (run_tutorref08_Import K0 n).2.2.2.2.2.1 (run_tutorref08_Import K0 n).2.2.2.2.2.2.1 (run_tutorref08_Import K0 n).2.2.2.2.2.2.2.1 (run_tutorref08_Import K0 n).2.2.2.2.2.2.2.2.1 (run_tutorref08_Import K0 n).2.2.2.2.2.2.2.2.2.1 (run_tutorref08_Import K0 n).2.2.2.2.2.2.2.2.2.2.1 (run_tutorref08_Import K0 n).2.2.2.2.2.2.2.2.2.2.2.1 (run_tutorref08_Import K0 n).2.2.2.2.2.2.2.2.2.2.2.2 K0)

def l_tutorref08_Import {R : Type} (b : List Int) (K0 : Int → Int → Int → Int → Int → Int → (List Int) → (List Int) → Option R) : Option R := evl fun fuel => e_tutorref08_Import (run_tutorref08_Import K0 fuel).1 (run_tutorref08_Import K0 fuel).2.1 (run_tutorref08_Import K0 fuel).2.2.1 (run_tutorref08_Import K0 fuel).2.2.2.1 (run_tutorref08_Import K0 fuel).2.2.2.2.1 (run_tutorref08_Import K0 fuel).2.2.2.2.2.1 (run_tutorref08_Import K0 fuel).2.2.2.2.2.2.1 (run_tutorref08_Import K0 fuel).2.2.2.2.2.2.2.1 (run_tutorref08_Import K0 fuel).2.2.2.2.2.2.2.2.1 (run_tutorref08_Import K0 fuel).2.2.2.2.2.2.2.2.2.1 (run_tutorref08_Import K0 fuel).2.2.2.2.2.2.2.2.2.2.1 (run_tutorref08_Import K0 fuel).2.2.2.2.2.2.2.2.2.2.2.1 (run_tutorref08_Import K0 fuel).2.2.2.2.2.2.2.2.2.2.2.2 K0 b

theorem ok_tutorref08_Import {R : Type} (b : List Int) (K0 : Int → Int → Int → Int → Int → Int → (List Int) → (List Int) → Option R) {r : R} (h : l_tutorref08_Import b K0 = some r) : ∃ fuel, e_tutorref08_Import (run_tutorref08_Import K0 fuel).1 (run_tutorref08_Import K0 fuel).2.1 (run_tutorref08_Import K0 fuel).2.2.1 (run_tutorref08_Import K0 fuel).2.2.2.1 (run_tutorref08_Import K0 fuel).2.2.2.2.1 (run_tutorref08_Import K0 fuel).2.2.2.2.2.1 (run_tutorref08_Import K0 fuel).2.2.2.2.2.2.1 (run_tutorref08_Import K0 fuel).2.2.2.2.2.2.2.1 (run_tutorref08_Import K0 fuel).2.2.2.2.2.2.2.2.1 (run_tutorref08_Import K0 fuel).2.2.2.2.2.2.2.2.2.1 (run_tutorref08_Import K0 fuel).2.2.2.2.2.2.2.2.2.2.1 (run_tutorref08_Import K0 fuel).2.2.2.2.2.2.2.2.2.2.2.1 (run_tutorref08_Import K0 fuel).2.2.2.2.2.2.2.2.2.2.2.2 K0 b = some r := evl_ok h

theorem st_tutorref08_Import_4 {R : Type} (K0 : Int → Int → Int → Int → Int → Int → (List Int) → (List Int) → Option R) (fuel : Nat) (b : List Int) (o0 o0_1 o0_2 o0_3 : Int) (o1 o2 : List Int) (o3 : ByteArray) (o3_1 o3_2 o3_3 : Int) (o4 : ByteArray) (o4_1 o4_2 o4_3 : Int) (o5 : ByteArray) (o5_1 o5_2 o5_3 : Int) : (run_tutorref08_Import K0 (fuel + 1)).1 b o0 o0_1 o0_2 o0_3 o1 o2 o3 o3_1 o3_2 o3_3 o4 o4_1 o4_2 o4_3 o5 o5_1 o5_2 o5_3 = s_tutorref08_Import_4 (run_tutorref08_Import K0 fuel).1 (run_tutorref08_Import K0 fuel).2.1 (run_tutorref08_Import K0 fuel).2.2.1 (run_tutorref08_Import K0 fuel).2.2.2.1 (run_tutorref08_Import K0 fuel).2.2.2.2.1 (run_tutorref08_Import K0 fuel).2.2.2.2.2.1 (run_tutorref08_Import K0 fuel).2.2.2.2.2.2.1 (run_tutorref08_Import K0 fuel).2.2.2.2.2.2.2.1 (run_tutorref08_Import K0 fuel).2.2.2.2.2.2.2.2.1 (run_tutorref08_Import K0 fuel).2.2.2.2.2.2.2.2.2.1 (run_tutorref08_Import K0 fuel).2.2.2.2.2.2.2.2.2.2.1 (run_tutorref08_Import K0 fuel).2.2.2.2.2.2.2.2.2.2.2.1 (run_tutorref08_Import K0 fuel).2.2.2.2.2.2.2.2.2.2.2.2 K0 b o0 o0_1 o0_2 o0_3 o1 o2 o3 o3_1 o3_2 o3_3 o4 o4_1 o4_2 o4_3 o5 o5_1 o5_2 o5_3 := rfl

theorem st_tutorref08_Import_5 {R : Type} (K0 : Int → Int → Int → Int → Int → Int → (List Int) → (List Int) → Option R) (fuel : Nat) (b : List Int) (o0 o0_1 o0_2 o0_3 : Int) (o1 o2 : List Int) (o3 : ByteArray) (o3_1 o3_2 o3_3 : Int) (o4 : ByteArray) (o4_1 o4_2 o4_3 : Int) (o5 : ByteArray) (o5_1 o5_2 o5_3 : Int) (o6 : ByteArray) (o6_1 o6_2 o6_3 : Int) (o7 : ByteArray) (o7_1 o7_2 o7_3 : Int) : (run_tutorref08_Import K0 (fuel + 1)).2.1 b o0 o0_1 o0_2 o0_3 o1 o2 o3 o3_1 o3_2 o3_3 o4 o4_1 o4_2 o4_3 o5 o5_1 o5_2 o5_3 o6 o6_1 o6_2 o6_3 o7 o7_1 o7_2 o7_3 = s_tutorref08_Import_5 (run_tutorref08_Import K0 fuel).1 (run_tutorref08_Import K0 fuel).2.1 (run_tutorref08_Import K0 fuel).2.2.1 (run_tutorref08_Import K0 fuel).2.2.2.1 (run_tutorref08_Import K0 fuel).2.2.2.2.1 (run_tutorref08_Import K0 fuel).2.2.2.2.2.1 (run_tutorref08_Import K0 fuel).2.2.2.2.2.2.1 (run_tutorref08_Import K0 fuel).2.2.2.2.2.2.2.1 (run_tutorref08_Import K0 fuel).2.2.2.2.2.2.2.2.1 (run_tutorref08_Import K0 fuel).2.2.2.2.2.2.2.2.2.1 (run_tutorref08_Import K0 fuel).2.2.2.2.2.2.2.2.2.2.1 (run_tutorref08_Import K0 fuel).2.2.2.2.2.2.2.2.2.2.2.1 (run_tutorref08_Import K0 fuel).2.2.2.2.2.2.2.2.2.2.2.2 K0 b o0 o0_1 o0_2 o0_3 o1 o2 o3 o3_1 o3_2 o3_3 o4 o4_1 o4_2 o4_3 o5 o5_1 o5_2 o5_3 o6 o6_1 o6_2 o6_3 o7 o7_1 o7_2 o7_3 := rfl

theorem st_tutorref08_Import_12 {R : Type} (K0 : Int → Int → Int → Int → Int → Int → (List Int) → (List Int) → Option R) (fuel : Nat) (b : List Int) (vat e o0 o0_1 o0_2 o0_3 : Int) (o1 o2 : List Int) (o3 : ByteArray) (o3_1 o3_2 o3_3 : Int) (o4 : ByteArray) (o4_1 o4_2 o4_3 o5 o5_1 o5_2 o5_3 : Int) (o6 o7 o8 : List Int) : (run_tutorref08_Import K0 (fuel + 1)).2.2.1 b vat e o0 o0_1 o0_2 o0_3 o1 o2 o3 o3_1 o3_2 o3_3 o4 o4_1 o4_2 o4_3 o5 o5_1 o5_2 o5_3 o6 o7 o8 = s_tutorref08_Import_12 (run_tutorref08_Import K0 fuel).1 (run_tutorref08_Import K0 fuel).2.1 (run_tutorref08_Import K0 fuel).2.2.1 (run_tutorref08_Import K0 fuel).2.2.2.1 (run_tutorref08_Import K0 fuel).2.2.2.2.1 (run_tutorref08_Import K0 fuel).2.2.2.2.2.1 (run_tutorref08_Import K0 fuel).2.2.2.2.2.2.1 (run_tutorref08_Import K0 fuel).2.2.2.2.2.2.2.1 (run_tutorref08_Import K0 fuel).2.2.2.2.2.2.2.2.1 (run_tutorref08_Import K0 fuel).2.2.2.2.2.2.2.2.2.1 (run_tutorref08_Import K0 fuel).2.2.2.2.2.2.2.2.2.2.1 (run_tutorref08_Import K0 fuel).2.2.2.2.2.2.2.2.2.2.2.1 (run_tutorref08_Import K0 fuel).2.2.2.2.2.2.2.2.2.2.2.2 K0 b vat e o0 o0_1 o0_2 o0_3 o1 o2 o3 o3_1 o3_2 o3_3 o4 o4_1 o4_2 o4_3 o5 o5_1 o5_2 o5_3 o6 o7 o8 := rfl

theorem st_tutorref08_Import_14 {R : Type} (K0 : Int → Int → Int → Int → Int → Int → (List Int) → (List Int) → Option R) (fuel : Nat) (b : List Int) (vat o0 o0_1 o0_2 o0_3 : Int) (o1 o2 : List Int) (o3 : ByteArray) (o3_1 o3_2 o3_3 : Int) (o4 : ByteArray) (o4_1 o4_2 o4_3 o5 o5_1 o5_2 o5_3 : Int) (o6 o7 o8 : List Int) : (run_tutorref08_Import K0 (fuel + 1)).2.2.2.1 b vat o0 o0_1 o0_2 o0_3 o1 o2 o3 o3_1 o3_2 o3_3 o4 o4_1 o4_2 o4_3 o5 o5_1 o5_2 o5_3 o6 o7 o8 = s_tutorref08_Import_14 (run_tutorref08_Import K0 fuel).1 (run_tutorref08_Import K0 fuel).2.1 (run_tutorref08_Import K0 fuel).2.2.1 (run_tutorref08_Import K0 fuel).2.2.2.1 (run_tutorref08_Import K0 fuel).2.2.2.2.1 (run_tutorref08_Import K0 fuel).2.2.2.2.2.1 (run_tutorref08_Import K0 fuel).2.2.2.2.2.2.1 (run_tutorref08_Import K0 fuel).2.2.2.2.2.2.2.1 (run_tutorref08_Import K0 fuel).2.2.2.2.2.2.2.2.1 (run_tutorref08_Import K0 fuel).2.2.2.2.2.2.2.2.2.1 (run_tutorref08_Import K0 fuel).2.2.2.2.2.2.2.2.2.2.1 (run_tutorref08_Import K0 fuel).2.2.2.2.2.2.2.2.2.2.2.1 (run_tutorref08_Import K0 fuel).2.2.2.2.2.2.2.2.2.2.2.2 K0 b vat o0 o0_1 o0_2 o0_3 o1 o2 o3 o3_1 o3_2 o3_3 o4 o4_1 o4_2 o4_3 o5 o5_1 o5_2 o5_3 o6 o7 o8 := rfl

theorem st_tutorref08_Import_17 {R : Type} (K0 : Int → Int → Int → Int → Int → Int → (List Int) → (List Int) → Option R) (fuel : Nat) (b : List Int) (vat o0 o0_1 o0_2 o0_3 : Int) (o1 o2 : List Int) (o3 : ByteArray) (o3_1 o3_2 o3_3 : Int) (o4 : ByteArray) (o4_1 o4_2 o4_3 o5 o5_1 o5_2 o5_3 : Int) (o6 o7 : List Int) : (run_tutorref08_Import K0 (fuel + 1)).2.2.2.2.1 b vat o0 o0_1 o0_2 o0_3 o1 o2 o3 o3_1 o3_2 o3_3 o4 o4_1 o4_2 o4_3 o5 o5_1 o5_2 o5_3 o6 o7 = s_tutorref08_Import_17 (run_tutorref08_Import K0 fuel).1 (run_tutorref08_Import K0 fuel).2.1 (run_tutorref08_Import K0 fuel).2.2.1 (run_tutorref08_Import K0 fuel).2.2.2.1 (run_tutorref08_Import K0 fuel).2.2.2.2.1 (run_tutorref08_Import K0 fuel).2.2.2.2.2.1 (run_tutorref08_Import K0 fuel).2.2.2.2.2.2.1 (run_tutorref08_Import K0 fuel).2.2.2.2.2.2.2.1 (run_tutorref08_Import K0 fuel).2.2.2.2.2.2.2.2.1 (run_tutorref08_Import K0 fuel).2.2.2.2.2.2.2.2.2.1 (run_tutorref08_Import K0 fuel).2.2.2.2.2.2.2.2.2.2.1 (run_tutorref08_Import K0 fuel).2.2.2.2.2.2.2.2.2.2.2.1 (run_tutorref08_Import K0 fuel).2.2.2.2.2.2.2.2.2.2.2.2 K0 b vat o0 o0_1 o0_2 o0_3 o1 o2 o3 o3_1 o3_2 o3_3 o4 o4_1 o4_2 o4_3 o5 o5_1 o5_2 o5_3 o6 o7 := rfl

theorem st_tutorref08_Import_18 {R : Type} (K0 : Int → Int → Int → Int → Int → Int → (List Int) → (List Int) → Option R) (fuel : Nat) (b : List Int) (vat o0 o0_1 o0_2 o0_3 : Int) (o1 o2 : List Int) (o3 : ByteArray) (o3_1 o3_2 o3_3 : Int) (o4 : ByteArray) (o4_1 o4_2 o4_3 o5 o5_1 o5_2 o5_3 : Int) (o6 o7 : List Int) (o8 : ByteArray) (o8_1 o8_2 o8_3 : Int) (o9 : ByteArray) (o9_1 o9_2 o9_3 : Int) : (run_tutorref08_Import K0 (fuel + 1)).2.2.2.2.2.1 b vat o0 o0_1 o0_2 o0_3 o1 o2 o3 o3_1 o3_2 o3_3 o4 o4_1 o4_2 o4_3 o5 o5_1 o5_2 o5_3 o6 o7 o8 o8_1 o8_2 o8_3 o9 o9_1 o9_2 o9_3 = s_tutorref08_Import_18 (run_tutorref08_Import K0 fuel).1 (run_tutorref08_Import K0 fuel).2.1 (run_tutorref08_Import K0 fuel).2.2.1 (run_tutorref08_Import K0 fuel).2.2.2.1 (run_tutorref08_Import K0 fuel).2.2.2.2.1 (run_tutorref08_Import K0 fuel).2.2.2.2.2.1 (run_tutorref08_Import K0 fuel).2.2.2.2.2.2.1 (run_tutorref08_Import K0 fuel).2.2.2.2.2.2.2.1 (run_tutorref08_Import K0 fuel).2.2.2.2.2.2.2.2.1 (run_tutorref08_Import K0 fuel).2.2.2.2.2.2.2.2.2.1 (run_tutorref08_Import K0 fuel).2.2.2.2.2.2.2.2.2.2.1 (run_tutorref08_Import K0 fuel).2.2.2.2.2.2.2.2.2.2.2.1 (run_tutorref08_Import K0 fuel).2.2.2.2.2.2.2.2.2.2.2.2 K0 b vat o0 o0_1 o0_2 o0_3 o1 o2 o3 o3_1 o3_2 o3_3 o4 o4_1 o4_2 o4_3 o5 o5_1 o5_2 o5_3 o6 o7 o8 o8_1 o8_2 o8_3 o9 o9_1 o9_2 o9_3 := rfl

theorem st_tutorref08_Import_20 {R : Type} (K0 : Int → Int → Int → Int → Int → Int → (List Int) → (List Int) → Option R) (fuel : Nat) (b : List Int) (vat x o0 o0_1 o0_2 o0_3 : Int) (o1 o2 : List Int) (o3 : ByteArray) (o3_1 o3_2 o3_3 : Int) (o4 : ByteArray) (o4_1 o4_2 o4_3 o5 o5_1 o5_2 o5_3 : Int) (o6 o7 : List Int) (o8 : ByteArray) (o8_1 o8_2 o8_3 : Int) (o9 : ByteArray) (o9_1 o9_2 o9_3 : Int) (o10 : List (ByteArray × (Int × (Int × Int)))) : (run_tutorref08_Import K0 (fuel + 1)).2.2.2.2.2.2.1 b vat x o0 o0_1 o0_2 o0_3 o1 o2 o3 o3_1 o3_2 o3_3 o4 o4_1 o4_2 o4_3 o5 o5_1 o5_2 o5_3 o6 o7 o8 o8_1 o8_2 o8_3 o9 o9_1 o9_2 o9_3 o10 = s_tutorref08_Import_20 (run_tutorref08_Import K0 fuel).1 (run_tutorref08_Import K0 fuel).2.1 (run_tutorref08_Import K0 fuel).2.2.1 (run_tutorref08_Import K0 fuel).2.2.2.1 (run_tutorref08_Import K0 fuel).2.2.2.2.1 (run_tutorref08_Import K0 fuel).2.2.2.2.2.1 (run_tutorref08_Import K0 fuel).2.2.2.2.2.2.1 (run_tutorref08_Import K0 fuel).2.2.2.2.2.2.2.1 (run_tutorref08_Import K0 fuel).2.2.2.2.2.2.2.2.1 (run_tutorref08_Import K0 fuel).2.2.2.2.2.2.2.2.2.1 (run_tutorref08_Import K0 fuel).2.2.2.2.2.2.2.2.2.2.1 (run_tutorref08_Import K0 fuel).2.2.2.2.2.2.2.2.2.2.2.1 (run_tutorref08_Import K0 fuel).2.2.2.2.2.2.2.2.2.2.2.2 K0 b vat x o0 o0_1 o0_2 o0_3 o1 o2 o3 o3_1 o3_2 o3_3 o4 o4_1 o4_2 o4_3 o5 o5_1 o5_2 o5_3 o6 o7 o8 o8_1 o8_2 o8_3 o9 o9_1 o9_2 o9_3 o10 := rfl

theorem st_tutorref08_Import_24 {R : Type} (K0 : Int → Int → Int → Int → Int → Int → (List Int) → (List Int) → Option R) (fuel : Nat) (b : List Int) (vat x o0 o0_1 o0_2 o0_3 : Int) (o1 o2 : List Int) (o3 : ByteArray) (o3_1 o3_2 o3_3 : Int) (o4 : ByteArray) (o4_1 o4_2 o4_3 o5 o5_1 o5_2 o5_3 : Int) (o6 o7 : List Int) (o8 : ByteArray) (o8_1 o8_2 o8_3 : Int) (o9 : ByteArray) (o9_1 o9_2 o9_3 : Int) (o10 : List (ByteArray × (Int × (Int × Int)))) : (run_tutorref08_Import K0 (fuel + 1)).2.2.2.2.2.2.2.1 b vat x o0 o0_1 o0_2 o0_3 o1 o2 o3 o3_1 o3_2 o3_3 o4 o4_1 o4_2 o4_3 o5 o5_1 o5_2 o5_3 o6 o7 o8 o8_1 o8_2 o8_3 o9 o9_1 o9_2 o9_3 o10 = s_tutorref08_Import_24 (run_tutorref08_Import K0 fuel).1 (run_tutorref08_Import K0 fuel).2.1 (run_tutorref08_Import K0 fuel).2.2.1 (run_tutorref08_Import K0 fuel).2.2.2.1 (run_tutorref08_Import K0 fuel).2.2.2.2.1 (run_tutorref08_Import K0 fuel).2.2.2.2.2.1 (run_tutorref08_Import K0 fuel).2.2.2.2.2.2.1 (run_tutorref08_Import K0 fuel).2.2.2.2.2.2.2.1 (run_tutorref08_Import K0 fuel).2.2.2.2.2.2.2.2.1 (run_tutorref08_Import K0 fuel).2.2.2.2.2.2.2.2.2.1 (run_tutorref08_Import K0 fuel).2.2.2.2.2.2.2.2.2.2.1 (run_tutorref08_Import K0 fuel).2.2.2.2.2.2.2.2.2.2.2.1 (run_tutorref08_Import K0 fuel).2.2.2.2.2.2.2.2.2.2.2.2 K0 b vat x o0 o0_1 o0_2 o0_3 o1 o2 o3 o3_1 o3_2 o3_3 o4 o4_1 o4_2 o4_3 o5 o5_1 o5_2 o5_3 o6 o7 o8 o8_1 o8_2 o8_3 o9 o9_1 o9_2 o9_3 o10 := rfl

theorem st_tutorref08_Import_31 {R : Type} (K0 : Int → Int → Int → Int → Int → Int → (List Int) → (List Int) → Option R) (fuel : Nat) (b : List Int) (vat s o0 o0_1 o0_2 o0_3 : Int) (o1 o2 : List Int) (o3 o3_1 o3_2 o3_3 : Int) (o4 o5 : List Int) (o6 : List (ByteArray × (Int × (Int × Int)))) : (run_tutorref08_Import K0 (fuel + 1)).2.2.2.2.2.2.2.2.1 b vat s o0 o0_1 o0_2 o0_3 o1 o2 o3 o3_1 o3_2 o3_3 o4 o5 o6 = s_tutorref08_Import_31 (run_tutorref08_Import K0 fuel).1 (run_tutorref08_Import K0 fuel).2.1 (run_tutorref08_Import K0 fuel).2.2.1 (run_tutorref08_Import K0 fuel).2.2.2.1 (run_tutorref08_Import K0 fuel).2.2.2.2.1 (run_tutorref08_Import K0 fuel).2.2.2.2.2.1 (run_tutorref08_Import K0 fuel).2.2.2.2.2.2.1 (run_tutorref08_Import K0 fuel).2.2.2.2.2.2.2.1 (run_tutorref08_Import K0 fuel).2.2.2.2.2.2.2.2.1 (run_tutorref08_Import K0 fuel).2.2.2.2.2.2.2.2.2.1 (run_tutorref08_Import K0 fuel).2.2.2.2.2.2.2.2.2.2.1 (run_tutorref08_Import K0 fuel).2.2.2.2.2.2.2.2.2.2.2.1 (run_tutorref08_Import K0 fuel).2.2.2.2.2.2.2.2.2.2.2.2 K0 b vat s o0 o0_1 o0_2 o0_3 o1 o2 o3 o3_1 o3_2 o3_3 o4 o5 o6 := rfl

theorem st_tutorref08_Import_26 {R : Type} (K0 : Int → Int → Int → Int → Int → Int → (List Int) → (List Int) → Option R) (fuel : Nat) (b : List Int) (vat x o0 o0_1 o0_2 o0_3 : Int) (o1 o2 : List Int) (o3 : ByteArray) (o3_1 o3_2 o3_3 : Int) (o4 : ByteArray) (o4_1 o4_2 o4_3 o5 o5_1 o5_2 o5_3 : Int) (o6 o7 : List Int) (o8 : ByteArray) (o8_1 o8_2 o8_3 : Int) (o9 : ByteArray) (o9_1 o9_2 o9_3 : Int) (o10 : List (ByteArray × (Int × (Int × Int)))) : (run_tutorref08_Import K0 (fuel + 1)).2.2.2.2.2.2.2.2.2.1 b vat x o0 o0_1 o0_2 o0_3 o1 o2 o3 o3_1 o3_2 o3_3 o4 o4_1 o4_2 o4_3 o5 o5_1 o5_2 o5_3 o6 o7 o8 o8_1 o8_2 o8_3 o9 o9_1 o9_2 o9_3 o10 = s_tutorref08_Import_26 (run_tutorref08_Import K0 fuel).1 (run_tutorref08_Import K0 fuel).2.1 (run_tutorref08_Import K0 fuel).2.2.1 (run_tutorref08_Import K0 fuel).2.2.2.1 (run_tutorref08_Import K0 fuel).2.2.2.2.1 (run_tutorref08_Import K0 fuel).2.2.2.2.2.1 (run_tutorref08_Import K0 fuel).2.2.2.2.2.2.1 (run_tutorref08_Import K0 fuel).2.2.2.2.2.2.2.1 (run_tutorref08_Import K0 fuel).2.2.2.2.2.2.2.2.1 (run_tutorref08_Import K0 fuel).2.2.2.2.2.2.2.2.2.1 (run_tutorref08_Import K0 fuel).2.2.2.2.2.2.2.2.2.2.1 (run_tutorref08_Import K0 fuel).2.2.2.2.2.2.2.2.2.2.2.1 (run_tutorref08_Import K0 fuel).2.2.2.2.2.2.2.2.2.2.2.2 K0 b vat x o0 o0_1 o0_2 o0_3 o1 o2 o3 o3_1 o3_2 o3_3 o4 o4_1 o4_2 o4_3 o5 o5_1 o5_2 o5_3 o6 o7 o8 o8_1 o8_2 o8_3 o9 o9_1 o9_2 o9_3 o10 := rfl

theorem st_tutorref08_Import_41a {R : Type} (K0 : Int → Int → Int → Int → Int → Int → (List Int) → (List Int) → Option R) (fuel : Nat) (b : List Int) (vat s : Int) (l : Nat) (i o0 o0_1 o0_2 o0_3 : Int) (o1 o2 : List Int) (o3 o3_1 o3_2 o3_3 : Int) (o4 o5 : List Int) (o6 : List (ByteArray × (Int × (Int × Int)))) (o7 : List Int) : (run_tutorref08_Import K0 (fuel + 1)).2.2.2.2.2.2.2.2.2.2.1 b vat s l i o0 o0_1 o0_2 o0_3 o1 o2 o3 o3_1 o3_2 o3_3 o4 o5 o6 o7 = s_tutorref08_Import_41a (run_tutorref08_Import K0 fuel).1 (run_tutorref08_Import K0 fuel).2.1 (run_tutorref08_Import K0 fuel).2.2.1 (run_tutorref08_Import K0 fuel).2.2.2.1 (run_tutorref08_Import K0 fuel).2.2.2.2.1 (run_tutorref08_Import K0 fuel).2.2.2.2.2.1 (run_tutorref08_Import K0 fuel).2.2.2.2.2.2.1 (run_tutorref08_Import K0 fuel).2.2.2.2.2.2.2.1 (run_tutorref08_Import K0 fuel).2.2.2.2.2.2.2.2.1 (run_tutorref08_Import K0 fuel).2.2.2.2.2.2.2.2.2.1 (run_tutorref08_Import K0 fuel).2.2.2.2.2.2.2.2.2.2.1 (run_tutorref08_Import K0 fuel).2.2.2.2.2.2.2.2.2.2.2.1 (run_tutorref08_Import K0 fuel).2.2.2.2.2.2.2.2.2.2.2.2 K0 b vat s l i o0 o0_1 o0_2 o0_3 o1 o2 o3 o3_1 o3_2 o3_3 o4 o5 o6 o7 := rfl

theorem st_tutorref08_Import_41b {R : Type} (K0 : Int → Int → Int → Int → Int → Int → (List Int) → (List Int) → Option R) (fuel : Nat) (b : List Int) (vat s i o0 o0_1 o0_2 o0_3 : Int) (o1 o2 : List Int) (o3 o3_1 o3_2 o3_3 : Int) (o4 o5 : List Int) (o6 : List (ByteArray × (Int × (Int × Int)))) (o7 : List Int) : (run_tutorref08_Import K0 (fuel + 1)).2.2.2.2.2.2.2.2.2.2.2.1 b vat s i o0 o0_1 o0_2 o0_3 o1 o2 o3 o3_1 o3_2 o3_3 o4 o5 o6 o7 = s_tutorref08_Import_41b (run_tutorref08_Import K0 fuel).1 (run_tutorref08_Import K0 fuel).2.1 (run_tutorref08_Import K0 fuel).2.2.1 (run_tutorref08_Import K0 fuel).2.2.2.1 (run_tutorref08_Import K0 fuel).2.2.2.2.1 (run_tutorref08_Import K0 fuel).2.2.2.2.2.1 (run_tutorref08_Import K0 fuel).2.2.2.2.2.2.1 (run_tutorref08_Import K0 fuel).2.2.2.2.2.2.2.1 (run_tutorref08_Import K0 fuel).2.2.2.2.2.2.2.2.1 (run_tutorref08_Import K0 fuel).2.2.2.2.2.2.2.2.2.1 (run_tutorref08_Import K0 fuel).2.2.2.2.2.2.2.2.2.2.1 (run_tutorref08_Import K0 fuel).2.2.2.2.2.2.2.2.2.2.2.1 (run_tutorref08_Import K0 fuel).2.2.2.2.2.2.2.2.2.2.2.2 K0 b vat s i o0 o0_1 o0_2 o0_3 o1 o2 o3 o3_1 o3_2 o3_3 o4 o5 o6 o7 := rfl

theorem st_tutorref08_Import_27 {R : Type} (K0 : Int → Int → Int → Int → Int → Int → (List Int) → (List Int) → Option R) (fuel : Nat) (b : List Int) (vat x o0 o0_1 o0_2 o0_3 : Int) (o1 o2 : List Int) (o3 : ByteArray) (o3_1 o3_2 o3_3 : Int) (o4 : ByteArray) (o4_1 o4_2 o4_3 o5 o5_1 o5_2 o5_3 : Int) (o6 o7 : List Int) (o8 : ByteArray) (o8_1 o8_2 o8_3 : Int) (o9 : ByteArray) (o9_1 o9_2 o9_3 : Int) (o10 : List (ByteArray × (Int × (Int × Int)))) : (run_tutorref08_Import K0 (fuel + 1)).2.2.2.2.2.2.2.2.2.2.2.2 b vat x o0 o0_1 o0_2 o0_3 o1 o2 o3 o3_1 o3_2 o3_3 o4 o4_1 o4_2 o4_3 o5 o5_1 o5_2 o5_3 o6 o7 o8 o8_1 o8_2 o8_3 o9 o9_1 o9_2 o9_3 o10 = s_tutorref08_Import_27 (run_tutorref08_Import K0 fuel).1 (run_tutorref08_Import K0 fuel).2.1 (run_tutorref08_Import K0 fuel).2.2.1 (run_tutorref08_Import K0 fuel).2.2.2.1 (run_tutorref08_Import K0 fuel).2.2.2.2.1 (run_tutorref08_Import K0 fuel).2.2.2.2.2.1 (run_tutorref08_Import K0 fuel).2.2.2.2.2.2.1 (run_tutorref08_Import K0 fuel).2.2.2.2.2.2.2.1 (run_tutorref08_Import K0 fuel).2.2.2.2.2.2.2.2.1 (run_tutorref08_Import K0 fuel).2.2.2.2.2.2.2.2.2.1 (run_tutorref08_Import K0 fuel).2.2.2.2.2.2.2.2.2.2.1 (run_tutorref08_Import K0 fuel).2.2.2.2.2.2.2.2.2.2.2.1 (run_tutorref08_Import K0 fuel).2.2.2.2.2.2.2.2.2.2.2.2 K0 b vat x o0 o0_1 o0_2 o0_3 o1 o2 o3 o3_1 o3_2 o3_3 o4 o4_1 o4_2 o4_3 o5 o5_1 o5_2 o5_3 o6 o7 o8 o8_1 o8_2 o8_3 o9 o9_1 o9_2 o9_3 o10 := rfl

section refimport

theorem takeS_bytes (b : List Int) : ∀ (l : List Pc) (a : Nat) (ns : List Int) (q : Nat × List Int), takeS b l a ns = .inr q → a ≤ b.length → q.2.length + a ≤ ns.length + q.1 ∧ ns.length ≤ q.2.length ∧ q.2.length ≤ ns.length + l.length ∧ q.1 ≤ b.length
  | [], a, ns, q, h, ha => by
    obtain rfl := Sum.inr.inj h
    simp
    exact ha
  | p :: l, a, ns, q, h, ha => by
    simp only [takeS] at h
    by_cases hp : 0 < p.1.size
    · rw [if_pos hp] at h
      obtain ⟨c, h1, h⟩ := bindR_ok h
      obtain ⟨e1, e2, e3, e4⟩ := takeS_bytes b l c ns q h (wantS_le h1 ha)
      have := (wantS_ok h1).1
      simp only [List.length_cons]
      omega
    · rw [if_neg hp] at h
      obtain ⟨c, h1, h⟩ := bindR_ok h
      obtain ⟨e1, e2, e3, e4⟩ := takeS_bytes b l c.2 (ns ++ [c.1]) q h (numbS_le h1 ha)
      have := numbS_lt h1
      simp only [List.length_cons, List.length_append, List.length_nil] at e1 e2 e3 ⊢
      omega

theorem evens_snoc : ∀ (l : List Int) (x : Int), (l.length % 2 = 0 → evens (l ++ [x]) = evens l ++ [x] ∧ odds (l ++ [x]) = odds l) ∧ (l.length % 2 = 1 → evens (l ++ [x]) = evens l ∧ odds (l ++ [x]) = odds l ++ [x])
  | [], x => ⟨fun _ => ⟨rfl, rfl⟩, fun h => by simp at h⟩
  | [z], x => ⟨fun h => by simp at h, fun _ => ⟨rfl, rfl⟩⟩
  | z :: w :: l, x => by
    obtain ⟨h1, h2⟩ := evens_snoc l x
    constructor
    · intro h
      obtain ⟨e1, e2⟩ := h1 (by simp at h; omega)
      exact ⟨by show z :: evens (l ++ [x]) = _; rw [e1]; rfl, by show w :: odds (l ++ [x]) = _; rw [e2]; rfl⟩
    · intro h
      obtain ⟨e1, e2⟩ := h2 (by simp at h; omega)
      exact ⟨by show z :: evens (l ++ [x]) = _; rw [e1]; rfl, by show w :: odds (l ++ [x]) = _; rw [e2]; rfl⟩

theorem take_snoc {l : List Int} {i : Nat} (h : i < l.length) : l.take (i + 1) = l.take i ++ [l[i]] := by
  rw [List.take_add_one, List.getElem?_eq_getElem h]
  rfl

theorem evens_len : ∀ l : List Int, (evens l).length ≤ l.length ∧ (odds l).length ≤ l.length
  | [] => by simp [evens, odds]
  | [_] => by simp [evens, odds]
  | _ :: _ :: l => by
    have := evens_len l
    simp only [evens, odds, List.length_cons]
    omega

variable {R : Type} {K0 : Int → Int → Int → Int → Int → Int → List Int → List Int → Option R} {b : List Int} {k K O N : Int}

theorem ri_deal1 {a s : Nat} {row : List Pc} {nums ou n0 : List Int} {v : Option R} (hk : k = 1) (hn : 0 < nums.length) (hb : n0.length ≤ 17000000 ∧ nums.length ≤ 1000)
    (next : Reach (fun m => (run_tutorref08_Import K0 m).2.2.2.2.2.2.2.2.1 b (a : Int) ((s + 1 : Nat) : Int) 0 0 0 0 [] [] k K O N (n0 ++ nums.tail) ou row) v) (hs : s ≤ 2000) :
    ∀ (d i : Nat), i + d = nums.length - 1 → Reach (fun m => (run_tutorref08_Import K0 m).2.2.2.2.2.2.2.2.2.2.1 b (a : Int) (s : Int) (nums.length - 1) (i : Int) 0 0 0 0 [] [] k K O N (n0 ++ nums.tail.take i) ou row nums) v
  | 0, i, h => by
    refine .step (fun m => ?_) next
    rw [st_tutorref08_Import_41a]
    unfold s_tutorref08_Import_41a
    rw [br_neg (by omega), wr ((s : Int) + 1) (by omega) (by omega), List.take_of_length_le (by rw [List.length_tail]; omega)]
    rfl
  | d + 1, i, h => by
    have hlt : i < nums.tail.length := by rw [List.length_tail]; omega
    refine .step (fun m => ?_) (ri_deal1 hk hn hb next hs d (i + 1) (by omega))
    rw [st_tutorref08_Import_41a]
    unfold s_tutorref08_Import_41a
    have hg : nums.getD (1 + (i : Int).toNat) 0 = nums.tail[i] := by
      rw [Int.toNat_natCast, getD_of 0 (by omega), List.getElem_tail]
      congr 1
      omega
    rw [br_pos (by omega), br_eq' (by omega), br_pos (by omega), hg, br_pos (by simp only [lim, List.length_append, List.length_take, List.length_cons, List.length_nil]; omega), wr ((i : Int) + 1) (by omega) (by omega), List.append_assoc, ← take_snoc hlt]
    rfl

theorem ri_deal2 {a s : Nat} {row : List Pc} {nums n0 o0 : List Int} {v : Option R} (hk : k = 2) (hb : n0.length ≤ 17000000 ∧ o0.length ≤ 17000000 ∧ nums.length ≤ 1000)
    (next : Reach (fun m => (run_tutorref08_Import K0 m).2.2.2.2.2.2.2.2.1 b (a : Int) ((s + 1 : Nat) : Int) 0 0 0 0 [] [] k K O N (n0 ++ evens nums) (o0 ++ odds nums) row) v) (hs : s ≤ 2000) :
    ∀ (d i : Nat), i + d = nums.length → Reach (fun m => (run_tutorref08_Import K0 m).2.2.2.2.2.2.2.2.2.2.2.1 b (a : Int) (s : Int) (i : Int) 0 0 0 0 [] [] k K O N (n0 ++ evens (nums.take i)) (o0 ++ odds (nums.take i)) row nums) v
  | 0, i, h => by
    refine .step (fun m => ?_) next
    rw [st_tutorref08_Import_41b]
    unfold s_tutorref08_Import_41b
    rw [br_neg (by omega), wr ((s : Int) + 1) (by omega) (by omega), List.take_of_length_le (by omega)]
    rfl
  | d + 1, i, h => by
    have hlt : i < nums.length := by omega
    refine .step (fun m => ?_) (ri_deal2 hk hb next hs d (i + 1) (by omega))
    rw [st_tutorref08_Import_41b]
    unfold s_tutorref08_Import_41b
    have hlen : (nums.take i).length = i := by rw [List.length_take]; omega
    obtain ⟨l1, l2⟩ := evens_len (nums.take i)
    obtain ⟨se, so⟩ := evens_snoc (nums.take i) nums[i]
    rw [hlen] at l1 l2 se so
    have ht : nums.take (i + 1) = nums.take i ++ [nums[i]] := take_snoc hlt
    rw [br_pos (by omega), br_eq hk, ht]
    by_cases c : i % 2 = 1
    · rw [br_eq (show ((i : Int).tmod 2) = 1 by rw [Int.tmod_eq_emod_of_nonneg (by omega)]; omega), br_pos (by omega), Int.toNat_natCast, getD_of 0 hlt, br_pos (by simp only [lim, List.length_append, List.length_cons, List.length_nil]; omega), wr ((i : Int) + 1) (by omega) (by omega), (so c).1, (so c).2, List.append_assoc]
      rfl
    · rw [br_eq' (show ((i : Int).tmod 2) ≠ 1 by rw [Int.tmod_eq_emod_of_nonneg (by omega)]; omega), br_pos (by omega), Int.toNat_natCast, getD_of 0 hlt, br_pos (by simp only [lim, List.length_append, List.length_cons, List.length_nil]; omega), wr ((i : Int) + 1) (by omega) (by omega), (se (by omega)).1, (se (by omega)).2, List.append_assoc]
      rfl

theorem rowP_small (k K O N : Int) (hK : K ≤ 64) : (rowP k K O N).length ≤ 1000 ∧ ∀ p ∈ rowP k K O N, p.1.size ≤ 1000 := by
  have hc := cellsP_len k O N K.toNat 0
  refine ⟨by unfold rowP; simp; omega, ?_⟩
  have hcell : ∀ x, ∀ p ∈ cellP k O N x, p.1.size ≤ 1000 := by
    have n1 : ∀ lo hi kd : Int, (numP lo hi kd).1.size ≤ 1000 := fun _ _ _ => Nat.le_of_ble_eq_true rfl
    have n2 : spP.1.size ≤ 1000 := by decide
    have n3 : slP.1.size ≤ 1000 := by decide
    intro x p hp
    unfold cellP at hp
    split at hp <;> split at hp <;> simp only [List.cons_append, List.nil_append, List.mem_cons, List.not_mem_nil, or_false] at hp <;>
      first
      | (rcases hp with h | h | h | h <;> rw [h] <;> first | exact n1 _ _ _ | exact n2 | exact n3)
      | (rcases hp with h | h | h <;> rw [h] <;> first | exact n1 _ _ _ | exact n2 | exact n3)
      | (rcases hp with h | h <;> rw [h] <;> first | exact n1 _ _ _ | exact n2 | exact n3)
  have hall : ∀ d x, ∀ p ∈ cellsP k O N d x, p.1.size ≤ 1000 := by
    intro d
    induction d with
    | zero => intro x p hp; simp [cellsP] at hp
    | succ d ih =>
      intro x p hp
      simp only [cellsP] at hp
      rcases List.mem_append.1 hp with h | h
      · exact hcell x p h
      · exact ih (x + 1) p h
  intro p hp
  unfold rowP at hp
  rcases List.mem_append.1 hp with h | h
  · exact hall _ _ p h
  · obtain rfl := List.mem_singleton.1 h
    decide

theorem ri_rows (hb : b.length ≤ 16777216) (hk : k = 1 ∨ k = 2) (hK : 1 ≤ K ∧ K ≤ 64) (hO : k = 1 → O = 2) (hN : 1 ≤ N ∧ N ≤ 1024) :
    ∀ (d s a : Nat) (nx ou : List Int), s + d = N.toNat → a ≤ b.length → nx.length ≤ a → ou.length ≤ a →
      Reach (fun m => (run_tutorref08_Import K0 m).2.2.2.2.2.2.2.2.1 b (a : Int) (s : Int) 0 0 0 0 [] [] k K O N nx ou (rowP k K O N))
        (outR (fun e p => K0 0 0 0 0 e p [] []) (fun m => K0 m.1 m.2.1 m.2.2.1 m.2.2.2.1 0 (b.length : Int) m.2.2.2.2.1 m.2.2.2.2.2) (bindR (rowsS k K O N b d a nx ou) (endI k K O N b)))
  | 0, s, a, nx, ou, hd, ha, hn, ho => by
    refine .now fun m => ?_
    rw [st_tutorref08_Import_31]
    unfold s_tutorref08_Import_31
    rw [br_neg (by omega)]
    simp only [rowsS, bindR_inr, endI]
    by_cases h : a < b.length
    · rw [br_pos (by omega), if_pos h]
      rfl
    · have e : a = b.length := by omega
      rw [br_neg (by omega), if_neg h, e]
      rfl
  | d + 1, s, a, nx, ou, hd, ha, hn, ho => by
    have hsN : (s : Int) < N := by omega
    obtain ⟨p1, p2⟩ := rowP_small k K O N hK.2
    have hrow := row_take (N := N) (b := b) (a := a) (n0 := nx) (o0 := ou) hk hK.1 hO
    simp only [rowsS]
    cases ht : takeS b (rowP k K O N) a [] with
    | inl e =>
      rw [ht] at hrow
      have hrow : rowS k K O N b a nx ou = .inl e := hrow
      have hf := ((flt_row ha).1 e hrow).1
      rw [hrow]
      refine .now fun m => ?_
      rw [st_tutorref08_Import_31]
      unfold s_tutorref08_Import_31
      rw [br_pos hsN, take_eq hb p1 p2 _ ha, ht]
      simp only
      rw [br_ne hf]
      rfl
    | inr q =>
      rw [ht] at hrow
      have hrow : rowS k K O N b a nx ou = .inr (q.1, (dealS k nx ou q.2).1, (dealS k nx ou q.2).2) := hrow
      rw [hrow]
      obtain ⟨e1, e2, e3, e4⟩ := takeS_bytes b _ _ _ _ ht ha
      simp only [List.length_nil, Nat.zero_add] at e1 e2 e3
      obtain ⟨l1, l2⟩ := evens_len q.2
      simp only [bindR_inr]
      have ih := fun nx' ou' h1 h2 => ri_rows hb hk hK hO hN d (s + 1) q.1 nx' ou' (by omega) e4 h1 h2
      rcases hk with c | c
      · have hpos : 0 < q.2.length := by
          obtain ⟨d', hd'⟩ : ∃ d', K.toNat = d' + 1 := ⟨K.toNat - 1, by omega⟩
          have hr : rowP k K O N = numP 0 (O - 1) 33 :: (spP :: numP 0 (N - 1) 32 :: (cellsP k O N d' 1 ++ [nlP])) := by
            unfold rowP
            rw [hd']
            simp only [cellsP]
            unfold cellP
            rw [if_pos c, if_pos rfl]
            rfl
          rw [hr, take_num] at ht
          obtain ⟨z, _, ht⟩ := bindR_ok ht
          have hz := (takeS_bytes b _ _ _ _ ht (by
            rename_i hz
            exact numbS_le hz ha)).2.1
          simp at hz
          omega
        have hdl : dealS k nx ou q.2 = (nx ++ q.2.tail, ou ++ [q.2.getD 0 0]) := by unfold dealS; rw [if_pos c]
        rw [hdl]
        have go := ri_deal1 (K0 := K0) (b := b) (K := K) (O := O) (N := N) (a := q.1) (s := s) (row := rowP k K O N) (nums := q.2) (ou := ou ++ [q.2.getD 0 0]) (n0 := nx) c hpos ⟨by omega, by omega⟩ (ih (nx ++ q.2.tail) (ou ++ [q.2.getD 0 0]) (by rw [List.length_append, List.length_tail]; omega) (by rw [List.length_append]; simp; omega)) (by omega) (q.2.length - 1) 0 (by omega)
        refine .step (fun m => ?_) go
        rw [st_tutorref08_Import_31]
        unfold s_tutorref08_Import_31
        rw [br_pos hsN, take_eq hb p1 p2 _ ha, ht]
        simp only
        rw [br_ne' rfl, br_eq c, br_pos (by omega), br_pos (by simp only [lim, List.length_append, List.length_cons, List.length_nil]; omega), br_pos (by omega), List.take_zero, List.append_nil]
        rfl
      · have hdl : dealS k nx ou q.2 = (nx ++ evens q.2, ou ++ odds q.2) := by unfold dealS; rw [if_neg (by omega)]
        rw [hdl]
        have go := ri_deal2 (K0 := K0) (b := b) (K := K) (O := O) (N := N) (a := q.1) (s := s) (row := rowP k K O N) (nums := q.2) (n0 := nx) (o0 := ou) c ⟨by omega, by omega, by omega⟩ (ih (nx ++ evens q.2) (ou ++ odds q.2) (by rw [List.length_append]; omega) (by rw [List.length_append]; omega)) (by omega) q.2.length 0 (by omega)
        refine .step (fun m => ?_) go
        rw [st_tutorref08_Import_31]
        unfold s_tutorref08_Import_31
        rw [br_pos hsN, take_eq hb p1 p2 _ ha, ht]
        simp only
        rw [br_ne' rfl, br_eq' (by omega), List.take_zero]
        simp only [evens, odds, List.append_nil]
        rfl

/-- The list of a line's pieces is made. -/
theorem ri_build (hk : k = 1 ∨ k = 2) (hK : 1 ≤ K ∧ K ≤ 64) {a : Nat} {v : Option R}
    (next : Reach (fun m => (run_tutorref08_Import K0 m).2.2.2.2.2.2.2.2.1 b (a : Int) 0 0 0 0 0 [] [] k K O N [] [] (rowP k K O N)) v) :
    ∀ (d x : Nat) (row : List Pc), x + d = K.toNat → row ++ cellsP k O N d x ++ [nlP] = rowP k K O N → row.length ≤ 4 * x →
      Reach (fun m => (run_tutorref08_Import K0 m).2.2.2.2.2.2.1 b (a : Int) (x : Int) 0 0 0 0 [] [] (ByteArray.mk #[32]) 0 0 0 (ByteArray.mk #[10]) 0 0 0 k K O N [] [] ByteArray.empty 0 (N - 1) 32 ByteArray.empty 0 (O - 1) 33 row) v
  | 0, x, row, hd, hr, hl => by
    refine .step (fun m => ?_) next
    rw [st_tutorref08_Import_20]
    unfold s_tutorref08_Import_20
    rw [br_neg (by omega), br_pos (by simp only [lim, List.length_append, List.length_cons, List.length_nil]; omega)]
    simp only [cellsP, List.append_nil] at hr
    rw [← hr]
    rfl
  | d + 1, x, row, hd, hr, hl => by
    have hxK : (x : Int) < K := by omega
    have hc : (cellP k O N x).length ≤ 4 := by
      unfold cellP
      split <;> split <;> simp
    have L : ∀ n : Nat, n ≤ 300 → n * 40 ≤ lim := fun n h => by simp only [lim]; omega
    have again := ri_build hk hK next d (x + 1) (row ++ cellP k O N x) (by omega) (by rw [← hr]; simp only [cellsP, List.append_assoc]) (by rw [List.length_append]; omega)
    have g27 : ∀ row' : List Pc, row'.length ≤ 290 → row' ++ (if k = 2 then [slP, numP 0 (O - 1) 33] else []) = row ++ cellP k O N x →
        Reach (fun m => (run_tutorref08_Import K0 m).2.2.2.2.2.2.2.2.2.2.2.2 b (a : Int) (x : Int) 0 0 0 0 [] [] (ByteArray.mk #[32]) 0 0 0 (ByteArray.mk #[10]) 0 0 0 k K O N [] [] ByteArray.empty 0 (N - 1) 32 ByteArray.empty 0 (O - 1) 33 row') v := by
      intro row' h1 h2
      refine .step (fun m => ?_) again
      rw [st_tutorref08_Import_27]
      unfold s_tutorref08_Import_27
      rw [← h2, wr ((x : Int) + 1) (by omega) (by omega)]
      by_cases c : k = 2
      · rw [br_eq c, br_pos (L _ (by simp only [List.length_append, List.length_cons, List.length_nil]; omega)), if_pos c]
        rfl
      · rw [br_eq' c, if_neg c, List.append_nil]
        rfl
    have g26 : ∀ row' : List Pc, row'.length ≤ 280 → row' ++ [numP 0 (N - 1) 32] ++ (if k = 2 then [slP, numP 0 (O - 1) 33] else []) = row ++ cellP k O N x →
        Reach (fun m => (run_tutorref08_Import K0 m).2.2.2.2.2.2.2.2.2.1 b (a : Int) (x : Int) 0 0 0 0 [] [] (ByteArray.mk #[32]) 0 0 0 (ByteArray.mk #[10]) 0 0 0 k K O N [] [] ByteArray.empty 0 (N - 1) 32 ByteArray.empty 0 (O - 1) 33 row') v := by
      intro row' h1 h2
      refine .step (fun m => ?_) (g27 (row' ++ [numP 0 (N - 1) 32]) (by simp; omega) h2)
      rw [st_tutorref08_Import_26]
      unfold s_tutorref08_Import_26
      rw [br_pos (L _ (by simp only [List.length_append, List.length_cons, List.length_nil]; omega))]
      rfl
    have g24 : ∀ row' : List Pc, row'.length ≤ 270 → row' ++ (if k = 1 ∨ 0 < x then [spP] else []) ++ [numP 0 (N - 1) 32] ++ (if k = 2 then [slP, numP 0 (O - 1) 33] else []) = row ++ cellP k O N x →
        Reach (fun m => (run_tutorref08_Import K0 m).2.2.2.2.2.2.2.1 b (a : Int) (x : Int) 0 0 0 0 [] [] (ByteArray.mk #[32]) 0 0 0 (ByteArray.mk #[10]) 0 0 0 k K O N [] [] ByteArray.empty 0 (N - 1) 32 ByteArray.empty 0 (O - 1) 33 row') v := by
      intro row' h1 h2
      by_cases c : k = 1 ∨ 0 < x
      · rw [if_pos c] at h2
        refine .step (fun m => ?_) (g26 (row' ++ [spP]) (by simp; omega) h2)
        rw [st_tutorref08_Import_24]
        unfold s_tutorref08_Import_24
        by_cases c1 : k = 1
        · rw [br_eq c1, br_pos (L _ (by simp only [List.length_append, List.length_cons, List.length_nil]; omega))]
          rfl
        · rw [br_eq' c1, br_pos (by omega), br_pos (L _ (by simp only [List.length_append, List.length_cons, List.length_nil]; omega))]
          rfl
      · rw [if_neg c, List.append_nil] at h2
        refine .step (fun m => ?_) (g26 row' (by omega) h2)
        rw [st_tutorref08_Import_24]
        unfold s_tutorref08_Import_24
        rw [br_eq' (by omega), br_neg (by omega)]
    have lx : row.length ≤ 260 := by omega
    by_cases c : k = 1 ∧ x = 0
    · refine .step (fun m => ?_) (g24 (row ++ [numP 0 (O - 1) 33]) (by simp; omega) (by
        unfold cellP
        rw [if_pos c.1, if_pos c.2, if_pos (.inl c.1), if_neg (by omega)]
        simp))
      rw [st_tutorref08_Import_20]
      unfold s_tutorref08_Import_20
      rw [br_pos hxK, br_eq c.1, br_eq (by omega), br_pos (L _ (by simp only [List.length_append, List.length_cons, List.length_nil]; omega))]
      rfl
    · refine .step (fun m => ?_) (g24 row (by omega) (by
        unfold cellP
        rcases hk with c1 | c1
        · rw [if_pos c1, if_neg (show ¬ x = 0 from fun h => c ⟨c1, h⟩), if_pos (.inl c1), if_neg (by omega)]
          simp
        · rw [if_neg (show ¬ k = 1 by omega), if_pos c1]
          by_cases c2 : 0 < x
          · rw [if_pos c2, if_pos (.inr c2)]
            simp
          · rw [if_neg c2, if_neg (by omega)]
            simp))
      rw [st_tutorref08_Import_20]
      unfold s_tutorref08_Import_20
      rw [br_pos hxK]
      by_cases c1 : k = 1
      · rw [br_eq c1, br_eq' (by omega)]
      · rw [br_eq' c1]

/-- The lines, from the first piece of the list on. -/
theorem ri_body (hb : b.length ≤ 16777216) (hk : k = 1 ∨ k = 2) (hK : 1 ≤ K ∧ K ≤ 64) (hO : k = 1 → O = 2) (hN : 1 ≤ N ∧ N ≤ 1024) {a : Nat} (ha : a ≤ b.length) :
    Reach (fun m => (run_tutorref08_Import K0 m).2.2.2.2.2.1 b (a : Int) 0 0 0 0 [] [] (ByteArray.mk #[32]) 0 0 0 (ByteArray.mk #[10]) 0 0 0 k K O N [] [] ByteArray.empty 0 (N - 1) 32 ByteArray.empty 0 (O - 1) 33)
      (outR (fun e p => K0 0 0 0 0 e p [] []) (fun m => K0 m.1 m.2.1 m.2.2.1 m.2.2.2.1 0 (b.length : Int) m.2.2.2.2.1 m.2.2.2.2.2) (bindR (rowsS k K O N b N.toNat a [] []) (endI k K O N b))) := by
  refine .step (fun m => ?_) (ri_build (K0 := K0) (b := b) hk hK (a := a) (ri_rows (K0 := K0) hb hk hK hO hN N.toNat 0 a [] [] (by omega) ha (by simp) (by simp)) K.toNat 0 [] (by omega) rfl (by simp))
  rw [st_tutorref08_Import_18]
  unfold s_tutorref08_Import_18
  rfl

theorem ri_bad {a e o5 o6 o7 o8 : Int} {nums : List Int} (he : e ≠ 0) : Reach (fun m => (run_tutorref08_Import K0 m).2.2.1 b a e 0 0 0 0 [] [] (ByteArray.mk #[32]) 0 0 0 (ByteArray.mk #[10]) 0 0 0 o5 o6 o7 o8 [] [] nums) (K0 0 0 0 0 e a [] []) := by
  refine .now fun m => ?_
  rw [st_tutorref08_Import_12]
  unfold s_tutorref08_Import_12
  rw [br_ne he]

theorem ri_17 {a : Int} {k x y z : Int} {v : Option R} (hy : -1000 ≤ y ∧ y ≤ 5000) (hz : -1000 ≤ z ∧ z ≤ 5000)
    (next : Reach (fun m => (run_tutorref08_Import K0 m).2.2.2.2.2.1 b a 0 0 0 0 [] [] (ByteArray.mk #[32]) 0 0 0 (ByteArray.mk #[10]) 0 0 0 k x y z [] [] ByteArray.empty 0 (z - 1) 32 ByteArray.empty 0 (y - 1) 33) v) :
    Reach (fun m => (run_tutorref08_Import K0 m).2.2.2.2.1 b a 0 0 0 0 [] [] (ByteArray.mk #[32]) 0 0 0 (ByteArray.mk #[10]) 0 0 0 k x y z [] []) v := by
  refine .step (fun m => ?_) next
  rw [st_tutorref08_Import_17]
  unfold s_tutorref08_Import_17
  simp only [twice_eq, thrice_eq, both_same]
  rw [wr (z - 1) (by omega) (by omega), wr (y - 1) (by omega) (by omega)]

theorem ri_two {a : Int} {x y z : Int} {v : Option R} (hy : -1000 ≤ y ∧ y ≤ 5000) (hz : -1000 ≤ z ∧ z ≤ 5000)
    (next : Reach (fun m => (run_tutorref08_Import K0 m).2.2.2.2.2.1 b a 0 0 0 0 [] [] (ByteArray.mk #[32]) 0 0 0 (ByteArray.mk #[10]) 0 0 0 2 x y z [] [] ByteArray.empty 0 (z - 1) 32 ByteArray.empty 0 (y - 1) 33) v) :
    Reach (fun m => (run_tutorref08_Import K0 m).2.2.1 b a 0 0 0 0 0 [] [] (ByteArray.mk #[32]) 0 0 0 (ByteArray.mk #[10]) 0 0 0 2 0 2 0 [] [] [x, y, z]) v := by
  have hw : IntKind.i64.wrap ((([x, y, z] : List Int).length : Int) - 1) = 2 := by rw [wr _ (by simp) (by simp)]; rfl
  have r14 : Reach (fun m => (run_tutorref08_Import K0 m).2.2.2.1 b a 0 0 0 0 [] [] (ByteArray.mk #[32]) 0 0 0 (ByteArray.mk #[10]) 0 0 0 2 0 2 0 [] [] [x, y, z]) v := by
    refine .step (fun m => ?_) (ri_17 hy hz next)
    rw [st_tutorref08_Import_14]
    unfold s_tutorref08_Import_14
    simp only [twice_eq, thrice_eq, both_same]
    rw [br_pos (by simp), hw, br_pos (by simp), br_eq rfl, br_pos (by simp)]
    rfl
  refine .step (fun m => ?_) r14
  rw [st_tutorref08_Import_12]
  unfold s_tutorref08_Import_12
  rw [br_ne' rfl]

theorem ri_one {a : Int} {x z : Int} {v : Option R} (hz : -1000 ≤ z ∧ z ≤ 5000)
    (next : Reach (fun m => (run_tutorref08_Import K0 m).2.2.2.2.2.1 b a 0 0 0 0 [] [] (ByteArray.mk #[32]) 0 0 0 (ByteArray.mk #[10]) 0 0 0 1 x 2 z [] [] ByteArray.empty 0 (z - 1) 32 ByteArray.empty 0 (2 - 1) 33) v) :
    Reach (fun m => (run_tutorref08_Import K0 m).2.2.1 b a 0 0 0 0 0 [] [] (ByteArray.mk #[32]) 0 0 0 (ByteArray.mk #[10]) 0 0 0 1 0 2 0 [] [] [x, z]) v := by
  have hw : IntKind.i64.wrap ((([x, z] : List Int).length : Int) - 1) = 1 := by rw [wr _ (by simp) (by simp)]; rfl
  have r14 : Reach (fun m => (run_tutorref08_Import K0 m).2.2.2.1 b a 0 0 0 0 [] [] (ByteArray.mk #[32]) 0 0 0 (ByteArray.mk #[10]) 0 0 0 1 0 2 0 [] [] [x, z]) v := by
    refine .step (fun m => ?_) (ri_17 ⟨by omega, by omega⟩ hz next)
    rw [st_tutorref08_Import_14]
    unfold s_tutorref08_Import_14
    simp only [twice_eq, thrice_eq, both_same]
    rw [br_pos (by simp), hw, br_pos (by simp), br_eq' (by decide)]
    rfl
  refine .step (fun m => ?_) r14
  rw [st_tutorref08_Import_12]
  unfold s_tutorref08_Import_12
  rw [br_ne' rfl]

theorem rimport_eq : l_tutorref08_Import b K0 = K0 (impS b).k (impS b).K (impS b).O (impS b).N (impS b).e (impS b).p (impS b).nx (impS b).ou := by
  refine evl_eq ?_
  unfold impS
  by_cases h : (b.length : Int) > 16777216
  · rw [if_pos h]
    refine .now fun m => ?_
    unfold e_tutorref08_Import
    rw [br_pos h]
  · rw [if_neg h]
    have hb : b.length ≤ 16777216 := by omega
    have eOut : (match (match readS b with
        | .inl e => (⟨0, 0, 0, 0, e.1, e.2, [], []⟩ : Imp)
        | .inr m => ⟨m.1, m.2.1, m.2.2.1, m.2.2.2.1, 0, (b.length : Int), m.2.2.2.2.1, m.2.2.2.2.2⟩) with
        | i => K0 i.k i.K i.O i.N i.e i.p i.nx i.ou) = outR (fun e p => K0 0 0 0 0 e p [] []) (fun m => K0 m.1 m.2.1 m.2.2.1 m.2.2.2.1 0 (b.length : Int) m.2.2.2.2.1 m.2.2.2.2.2) (readS b) := by
      cases readS b <;> rfl
    refine Reach.of_eq ?_ eOut.symm
    refine .same (G := fun m => (run_tutorref08_Import K0 m).1 b 0 0 0 0 [] [] ByteArray.empty 1 64 1 ByteArray.empty 1 64 33 ByteArray.empty 1 1024 3) (fun m => ?_) ?_
    · unfold e_tutorref08_Import
      rw [br_neg h]
    refine .step (G := fun m => (run_tutorref08_Import K0 m).2.1 b 0 0 0 0 [] [] ByteArray.empty 1 64 1 ByteArray.empty 1 64 33 ByteArray.empty 1 1024 3 (ByteArray.mk #[32]) 0 0 0 (ByteArray.mk #[10]) 0 0 0) (fun m => ?_) ?_
    · rw [st_tutorref08_Import_4]
      unfold s_tutorref08_Import_4
      rfl
    have eR : readS b = bindR (headI b) fun h => bindR (rowsS h.1 h.2.1 h.2.2.1 h.2.2.2.1 b h.2.2.2.1.toNat h.2.2.2.2 [] []) (endI h.1 h.2.1 h.2.2.1 h.2.2.2.1 b) := rfl
    have hfl := (flt_head b).1
    have hhd := fun h hh => head_there (b := b) (h := h) hh
    have hle := (flt_head b).2
    rw [eR]
    -- the first line by pieces
    have t1 : takeS b [((ByteArray.mk #[100, 102, 97, 32]), (0, (0, 0))), (ByteArray.empty, (1, (64, 1))), ((ByteArray.mk #[32]), (0, (0, 0))), (ByteArray.empty, (1, (1024, 3))), ((ByteArray.mk #[10]), (0, (0, 0)))] 0 [] =
        bindR (wantS [100, 102, 97, 32] b 0) fun a0 => bindR (numbS 1 64 1 b a0) fun q1 => bindR (wantS [32] b q1.2) fun a1 => bindR (numbS 1 1024 3 b a1) fun q3 => bindR (wantS [10] b q3.2) fun a3 => .inr (a3, [q1.1, q3.1]) := rfl
    have t2 : takeS b [((ByteArray.mk #[109, 101, 97, 108, 121, 32]), (0, (0, 0))), (ByteArray.empty, (1, (64, 1))), ((ByteArray.mk #[32]), (0, (0, 0))), (ByteArray.empty, (1, (64, 33))), ((ByteArray.mk #[32]), (0, (0, 0))), (ByteArray.empty, (1, (1024, 3))), ((ByteArray.mk #[10]), (0, (0, 0)))] 0 [] =
        bindR (wantS [109, 101, 97, 108, 121, 32] b 0) fun a0 => bindR (numbS 1 64 1 b a0) fun q1 => bindR (wantS [32] b q1.2) fun a1 => bindR (numbS 1 64 33 b a1) fun q2 => bindR (wantS [32] b q2.2) fun a2 => bindR (numbS 1 1024 3 b a2) fun q3 => bindR (wantS [10] b q3.2) fun a3 => .inr (a3, [q1.1, q2.1, q3.1]) := rfl
    have small : ∀ (p0 : Pc) (l : List Pc), p0.1.size ≤ 1000 → (∀ p ∈ l, p.1.size ≤ 1000) → ∀ p ∈ p0 :: l, p.1.size ≤ 1000 := fun p0 l h0 hl p hp => (List.mem_cons.1 hp).elim (fun e => e ▸ h0) (hl p)
    have k1 : ∀ p ∈ ([((ByteArray.mk #[100, 102, 97, 32]), (0, (0, 0))), (ByteArray.empty, (1, (64, 1))), ((ByteArray.mk #[32]), (0, (0, 0))), (ByteArray.empty, (1, (1024, 3))), ((ByteArray.mk #[10]), (0, (0, 0)))] : List Pc), p.1.size ≤ 1000 :=
      small _ _ (by decide) (small _ _ (by decide) (small _ _ (by decide) (small _ _ (by decide) (small _ _ (by decide) (fun p hp => by simp at hp)))))
    have k2 : ∀ p ∈ ([((ByteArray.mk #[109, 101, 97, 108, 121, 32]), (0, (0, 0))), (ByteArray.empty, (1, (64, 1))), ((ByteArray.mk #[32]), (0, (0, 0))), (ByteArray.empty, (1, (64, 33))), ((ByteArray.mk #[32]), (0, (0, 0))), (ByteArray.empty, (1, (1024, 3))), ((ByteArray.mk #[10]), (0, (0, 0)))] : List Pc), p.1.size ≤ 1000 :=
      small _ _ (by decide) (small _ _ (by decide) (small _ _ (by decide) (small _ _ (by decide) (small _ _ (by decide) (small _ _ (by decide) (small _ _ (by decide) (fun p hp => by simp at hp)))))))
    have e1 := fun K1 => take_eq (R := R) hb (l := [((ByteArray.mk #[100, 102, 97, 32]), (0, (0, 0))), (ByteArray.empty, (1, (64, 1))), ((ByteArray.mk #[32]), (0, (0, 0))), (ByteArray.empty, (1, (1024, 3))), ((ByteArray.mk #[10]), (0, (0, 0)))]) (by decide) k1 K1 (a := 0) (Nat.zero_le _)
    have e2 := fun K1 => take_eq (R := R) hb (l := [((ByteArray.mk #[109, 101, 97, 108, 121, 32]), (0, (0, 0))), (ByteArray.empty, (1, (64, 1))), ((ByteArray.mk #[32]), (0, (0, 0))), (ByteArray.empty, (1, (64, 33))), ((ByteArray.mk #[32]), (0, (0, 0))), (ByteArray.empty, (1, (1024, 3))), ((ByteArray.mk #[10]), (0, (0, 0)))]) (by decide) k2 K1 (a := 0) (Nat.zero_le _)
    have t1' : ¬ b[0]? = some 109 → takeS b [((ByteArray.mk #[100, 102, 97, 32]), (0, (0, 0))), (ByteArray.empty, (1, (64, 1))), ((ByteArray.mk #[32]), (0, (0, 0))), (ByteArray.empty, (1, (1024, 3))), ((ByteArray.mk #[10]), (0, (0, 0)))] 0 [] =
        bindR (headI b) fun h => .inr (h.2.2.2.2, [h.2.1, h.2.2.2.1]) := by
      intro h0
      rw [t1]
      unfold headI
      rw [if_neg h0]
      simp only [bindR_comp, bindR_inr]
    have t2' : b[0]? = some 109 → takeS b [((ByteArray.mk #[109, 101, 97, 108, 121, 32]), (0, (0, 0))), (ByteArray.empty, (1, (64, 1))), ((ByteArray.mk #[32]), (0, (0, 0))), (ByteArray.empty, (1, (64, 33))), ((ByteArray.mk #[32]), (0, (0, 0))), (ByteArray.empty, (1, (1024, 3))), ((ByteArray.mk #[10]), (0, (0, 0)))] 0 [] =
        bindR (headI b) fun h => .inr (h.2.2.2.2, [h.2.1, h.2.2.1, h.2.2.2.1]) := by
      intro h0
      rw [t2]
      unfold headI
      rw [if_pos h0]
      simp only [bindR_comp, bindR_inr]
    have hkind : ∀ h, headI b = .inr h → (b[0]? = some 109 → h.1 = 2) ∧ (¬ b[0]? = some 109 → h.1 = 1) := by
      intro h hh
      unfold headI at hh
      constructor
      · intro h0
        rw [if_pos h0] at hh
        obtain ⟨_, _, hh⟩ := bindR_ok hh
        obtain ⟨_, _, hh⟩ := bindR_ok hh
        obtain ⟨_, _, hh⟩ := bindR_ok hh
        obtain ⟨_, _, hh⟩ := bindR_ok hh
        obtain ⟨_, _, hh⟩ := bindR_ok hh
        obtain ⟨_, _, hh⟩ := bindR_ok hh
        obtain ⟨_, _, hh⟩ := bindR_ok hh
        obtain rfl := Sum.inr.inj hh
        rfl
      · intro h0
        rw [if_neg h0] at hh
        obtain ⟨_, _, hh⟩ := bindR_ok hh
        obtain ⟨_, _, hh⟩ := bindR_ok hh
        obtain ⟨_, _, hh⟩ := bindR_ok hh
        obtain ⟨_, _, hh⟩ := bindR_ok hh
        obtain ⟨_, _, hh⟩ := bindR_ok hh
        obtain rfl := Sum.inr.inj hh
        rfl
    simp only [Int.natCast_zero] at e1 e2
    cases hY : headI b with
    | inl e =>
      have hne := (hfl e hY).1
      rw [hY] at t1' t2'
      refine .step (fun m => ?_) (ri_bad (K0 := K0) (b := b) (a := e.2) (o5 := if b[0]? = some 109 then 2 else 1) (o6 := 0) (o7 := 2) (o8 := 0) (nums := []) hne)
      rw [st_tutorref08_Import_5]
      unfold s_tutorref08_Import_5
      by_cases h0 : b[0]? = some 109
      · have hlt : 0 < b.length := (List.getElem?_eq_some_iff.1 h0).1
        have g0 : b.getD 0 0 = 109 := by rw [List.getD_eq_getElem?_getD, h0]; rfl
        rw [br_pos (by omega), br_pos (by omega), br_eq g0, e2, t2' h0, if_pos h0]
        rfl
      · by_cases hl : 0 < b.length
        · have g0 : ¬ b.getD 0 0 = 109 := by
            intro hx
            apply h0
            rw [List.getElem?_eq_getElem hl]
            rw [getD_of 0 hl] at hx
            rw [hx]
          rw [br_pos (by omega), br_pos (by omega), br_eq' g0, e1, t1' h0, if_neg h0]
          rfl
        · rw [br_neg (by omega), e1, t1' h0, if_neg h0]
          rfl
    | inr hd =>
      obtain ⟨f1, f2, f3, f4, f5, _⟩ := hhd hd hY
      obtain ⟨q2, q1⟩ := hkind hd hY
      have ha := hle hd hY
      rw [hY] at t1' t2'
      simp only [bindR_inr] at t1' t2' ⊢
      have body := ri_body (K0 := K0) (b := b) (k := hd.1) (K := hd.2.1) (O := hd.2.2.1) (N := hd.2.2.2.1) hb f1 f2 f4 f5 ha
      by_cases h0 : b[0]? = some 109
      · have hlt : 0 < b.length := (List.getElem?_eq_some_iff.1 h0).1
        have g0 : b.getD 0 0 = 109 := by rw [List.getD_eq_getElem?_getD, h0]; rfl
        have hk2 := q2 h0
        rw [hk2] at body ⊢
        refine .step (fun m => ?_) (ri_two ⟨by omega, by omega⟩ ⟨by omega, by omega⟩ body)
        rw [st_tutorref08_Import_5]
        unfold s_tutorref08_Import_5
        rw [br_pos (by omega), br_pos (by omega), br_eq g0, e2, t2' h0]
      · have hk1 := q1 h0
        have o2 := f4 hk1
        rw [hk1, o2] at body ⊢
        refine .step (fun m => ?_) (ri_one ⟨by omega, by omega⟩ body)
        rw [st_tutorref08_Import_5]
        unfold s_tutorref08_Import_5
        by_cases hl : 0 < b.length
        · have g0 : ¬ b.getD 0 0 = 109 := by
            intro hx
            apply h0
            rw [List.getElem?_eq_getElem hl]
            rw [getD_of 0 hl] at hx
            rw [hx]
          rw [br_pos (by omega), br_pos (by omega), br_eq' g0, e1, t1' h0]
        · rw [br_neg (by omega), e1, t1' h0]
end refimport

abbrev LT_tutorref08_Same := {R : Type} → (List Int) → (List Int) → (Bool → Option R) → Option R
/-- tutor/tutorref08.Same -/
def l_tutorref08_Same {R : Type} (a b : List Int) (K0 : Bool → Option R) : Option R :=
  K0 ((ofBts a).toList == (ofBts b).toList)

theorem sameB_eq {R : Type} (a : List Int) (K0 : Bool → Option R) : l_tutorref08_Same a a K0 = K0 true := by
  unfold l_tutorref08_Same
  rw [beq_self_eq_true]


abbrev LT_tutorlaw08_TextImports := {R : Type} → (List Int) → (Bool → Option R) → Option R
/-- tutor/tutorlaw08.TextImports -/
def l_tutorlaw08_TextImports {R : Type} (b : List Int) (K0 : Bool → Option R) : Option R :=
  bi (decide ((b.length : Int) > 20000))
   (l_tutorlaw08_live
    (fun r1 =>
     K0 r1))
   (bi (decide ((([] : List Int).length + b.length) * 1 ≤ lim))
    (l_text_Import (([] : List Int) ++ b)
     (fun r2 r3 r4 r5 r6 r7 r8 r9 =>
      l_tutorref08_Import b
       (fun r10 r11 r12 r13 r14 r15 r16 r17 =>
        l_tutorref03_Same r2 r3 r4 r5 r8 r9 r10 r11 r12 r13 r16 r17
         (fun r18 =>
          bi r18
           (l_tutorlaw08_num r6
            (fun r19 =>
             bi (r19 == r14)
              (bi (r7 == r15)
               (l_tutorref08_Same (([] : List Int) ++ b) b
                (fun r20 =>
                 bi r20
                  (l_tutorlaw08_live
                   (fun r21 =>
                    K0 r21))
                  (K0 false)))
               (K0 false))
              (K0 false)))
           (K0 false)))))
    none)

theorem law_tutorlaw08_TextImports {R : Type} (b : List Int) (K0 : Bool → Option R) (hb : b.length ≤ 140737488351232 ∧ ∀ x ∈ b, (Lit.int .u8 x).wf = true) : l_tutorlaw08_TextImports b K0 = K0 true := by
  unfold l_tutorlaw08_TextImports
  by_cases h : (b.length : Int) > 20000
  · rw [br_pos h, live08]
  · have hsh : ∀ i : Imp, i = impS b → short i.nx ∧ short i.ou := by
      rintro i rfl
      unfold impS
      rw [if_neg (show ¬ (b.length : Int) > 16777216 by omega)]
      cases hr : readS b with
      | inl e => exact ⟨by unfold short; simp, by unfold short; simp⟩
      | inr m =>
        obtain ⟨F, _⟩ := read_there hr
        have fK := F.fK
        have fN := F.fN
        have h2 : m.2.2.2.1 * m.2.1 ≤ 65536 := by
          have := Int.mul_le_mul (a := m.2.2.2.1) (b := m.2.1) (c := 1024) (d := 64) (by omega) (by omega) (by omega) (by omega)
          omega
        have h3 := F.fnx
        refine ⟨?_, ?_⟩
        · unfold short
          simp only
          omega
        · unfold short
          simp only
          rcases F.fk with c | c
          · have := F.fou1 c
            omega
          · have := F.fou2 c
            omega
    obtain ⟨s1, s2⟩ := hsh _ rfl
    rw [br_neg h, br_pos (by simp only [lim, List.length_nil]; omega), List.nil_append, import_eq]
    try dsimp only
    rw [rimport_eq]
    try dsimp only
    rw [sameM_eq s1 s2]
    try dsimp only [l_tutorlaw08_num]
    rw [br_tt, br_eq rfl, br_eq rfl, sameB_eq]
    try dsimp only
    rw [br_tt, live08]

end
end Go.Ev
