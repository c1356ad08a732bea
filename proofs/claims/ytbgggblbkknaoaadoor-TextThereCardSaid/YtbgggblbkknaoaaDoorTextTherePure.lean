/- Functions of the program, as trees of tests over numbers and lists; no program in sight. -/
import Derived.Test.YtbgggblbkknaoaaDoorEvMach
import Derived.Test.YtbgggblbkknaoaaDoorEvWord
import Derived.Test.YtbgggblbkknaoaaDoorEvNum
import Derived.Test.YtbgggblbkknaoaaDoorEvTeach
import Derived.Test.YtbgggblbkknaoaaDoorEvText
import Derived.Test.YtbgggblbkknaoaaDoorEvImp
import Derived.Test.YtbgggblbkknaoaaDoorEvBack
import Derived.Test.YtbgggblbkknaoaaDoorEvThere
namespace Go.Ev
noncomputable section
set_option linter.unusedVariables false
set_option linter.unusedSimpArgs false
set_option maxRecDepth 100000
set_option maxHeartbeats 4000000

/-- tutor/machine.says -/
def l_machine_says {R : Type} (m : Int) (m_1 : Int) (m_2 : Int) (m_3 : Int) (m_4 : List Int) (m_5 : List Int) (K0 : Int → Option R) : Option R :=
  bi (m == 1)
   (K0 m_3)
   (K0 (IntKind.i64.wrap (m_3 * m_1)))

/-- tutor/machine.head -/
def l_machine_head {R : Type} (m : Int) (m_1 : Int) (m_2 : Int) (m_3 : Int) (m_4 : List Int) (m_5 : List Int) (K0 : Int → Option R) : Option R :=
  bi (m != 1)
   (bi (m != 2)
    (K0 30)
    (bi (decide (m_1 < 1))
     (K0 1)
     (bi (decide (m_1 > 64))
      (K0 1)
      (bi (m == 1)
       (bi (m_2 != 2)
        (K0 33)
        (bi (decide (m_2 < 1))
         (K0 33)
         (bi (decide (m_2 > 64))
          (K0 33)
          (bi (decide (m_3 < 1))
           (K0 3)
           (bi (decide (m_3 > 1024))
            (K0 3)
            (bi ((m_4.length : Int) != (IntKind.i64.wrap (m_3 * m_1)))
             (K0 31)
             (l_machine_says m m_1 m_2 m_3 m_4 m_5
              (fun r1 =>
               bi ((m_5.length : Int) != r1)
                (K0 31)
                (K0 0)))))))))
       (bi (decide (m_2 < 1))
        (K0 33)
        (bi (decide (m_2 > 64))
         (K0 33)
         (bi (decide (m_3 < 1))
          (K0 3)
          (bi (decide (m_3 > 1024))
           (K0 3)
           (bi ((m_4.length : Int) != (IntKind.i64.wrap (m_3 * m_1)))
            (K0 31)
            (l_machine_says m m_1 m_2 m_3 m_4 m_5
             (fun r2 =>
              bi ((m_5.length : Int) != r2)
               (K0 31)
               (K0 0))))))))))))
   (bi (decide (m_1 < 1))
    (K0 1)
    (bi (decide (m_1 > 64))
     (K0 1)
     (bi (m == 1)
      (bi (m_2 != 2)
       (K0 33)
       (bi (decide (m_2 < 1))
        (K0 33)
        (bi (decide (m_2 > 64))
         (K0 33)
         (bi (decide (m_3 < 1))
          (K0 3)
          (bi (decide (m_3 > 1024))
           (K0 3)
           (bi ((m_4.length : Int) != (IntKind.i64.wrap (m_3 * m_1)))
            (K0 31)
            (l_machine_says m m_1 m_2 m_3 m_4 m_5
             (fun r3 =>
              bi ((m_5.length : Int) != r3)
               (K0 31)
               (K0 0)))))))))
      (bi (decide (m_2 < 1))
       (K0 33)
       (bi (decide (m_2 > 64))
        (K0 33)
        (bi (decide (m_3 < 1))
         (K0 3)
         (bi (decide (m_3 > 1024))
          (K0 3)
          (bi ((m_4.length : Int) != (IntKind.i64.wrap (m_3 * m_1)))
           (K0 31)
           (l_machine_says m m_1 m_2 m_3 m_4 m_5
            (fun r4 =>
             bi ((m_5.length : Int) != r4)
              (K0 31)
              (K0 0)))))))))))

theorem head_eq {R : Type} (k K O N : Int) (nx ou : List Int) (K0 : Int → Option R) : l_machine_head k K O N nx ou K0 = K0 (headS k K O N nx ou) := by
  unfold l_machine_head l_machine_says headS
  simp only [br_if, bne_iff_ne, beq_iff_eq, decide_eq_true_eq, ne_eq]
  by_cases hb : (1 ≤ N ∧ N ≤ 1024) ∧ 1 ≤ K ∧ K ≤ 64
  · have := mulK hb
    rw [wr (N * K) (by omega) (by omega)]
    repeat' (refine ite_l (fun _ => ?_) (fun _ => ?_))
    all_goals
      refine congrArg K0 ?_
      repeat' (refine ite_r (fun _ => ?_) (fun _ => ?_))
      all_goals omega
  · repeat' (refine ite_l (fun _ => ?_) (fun _ => ?_))
    all_goals
      refine congrArg K0 ?_
      repeat' (refine ite_r (fun _ => ?_) (fun _ => ?_))
      all_goals omega

/-- tutor/machine.beyond -/
def s_machine_beyond_2 {R : Type} (g46_2 : (List Int) → Int → Int → Int → Option R) (K0 : Int → Option R) (l : List Int) (n : Int) (x7 : Int) (x8 : Int) : Option R :=
  bi (decide (x8 < x7))
   (bi (decide (0 ≤ x8 ∧ x8 < ((l.length : Nat) : Int)))
    (bi (decide ((IntKind.u64.wrap (l.getD x8.toNat 0)) ≥ (IntKind.u64.wrap n)))
     (K0 x8)
     (g46_2 l n x7 (IntKind.i64.wrap (x8 + 1))))
    none)
   (K0 (-1))

/-- tutor/machine.beyond -/
def e_machine_beyond {R : Type} (g46_2 : (List Int) → Int → Int → Int → Option R) (K0 : Int → Option R) (l : List Int) (n : Int) : Option R :=
  g46_2 l n (l.length : Int) 0

def run_machine_beyond {R : Type} (K0 : Int → Option R) : Nat → (List Int) → Int → Int → Int → Option R
  | 0 => fun _ _ _ _ => none
  | n + 1 => s_machine_beyond_2 (run_machine_beyond K0 n) K0

def l_machine_beyond {R : Type} (l : List Int) (n : Int) (K0 : Int → Option R) : Option R := bi (decide (short l)) (K0 (beyondS n l)) none

theorem ok_machine_beyond {R : Type} (l : List Int) (n : Int) (K0 : Int → Option R) {r : R} (h : l_machine_beyond l n K0 = some r) : ∃ fuel, e_machine_beyond (run_machine_beyond K0 fuel) K0 l n = some r := by
  unfold l_machine_beyond at h
  rcases bi_some h with ⟨hs, h⟩ | ⟨_, h⟩
  · have hs : l.length < 4611686018427387904 := of_decide_eq_true hs
    refine ⟨l.length + 1, ?_⟩
    rw [← h]
    have key := scan_all (F := fun m i => run_machine_beyond K0 m l n (l.length : Int) (i : Int)) (bad n) (l := l) (A := fun i => K0 i) (B := K0 (-1))
      (fun m => by
        show s_machine_beyond_2 _ _ _ _ _ _ = _
        unfold s_machine_beyond_2
        rw [br_neg (by omega)])
      (fun m i hi => by
        show s_machine_beyond_2 _ _ _ _ _ _ = _
        unfold s_machine_beyond_2
        rw [br_pos (by omega), br_pos (by omega), br_if, Int.toNat_natCast, getD_of 0 hi, wr _ (by omega) (by omega)]
        rfl)
    unfold e_machine_beyond beyondS
    refine key.trans ?_
    cases findP (bad n) l <;> rfl
  · cases h

/-- tutor/machine.Check -/
def l_machine_Check {R : Type} (m : Int) (m_1 : Int) (m_2 : Int) (m_3 : Int) (m_4 : List Int) (m_5 : List Int) (K0 : Int → Int → Option R) : Option R :=
  l_machine_head m m_1 m_2 m_3 m_4 m_5
   (fun r1 =>
    bi (r1 != 0)
     (K0 0 r1)
     (l_machine_beyond m_4 m_3
      (fun r2 =>
       bi (decide (r2 ≥ 0))
        (K0 r2 32)
        (l_machine_beyond m_5 m_2
         (fun r3 =>
          bi (decide (r3 ≥ 0))
           (K0 r3 33)
           (K0 0 0))))))

theorem check_eq {R : Type} (k K O N : Int) (nx ou : List Int) (h1 : short nx) (h2 : short ou) (K0 : Int → Int → Option R) :
    l_machine_Check k K O N nx ou K0 = K0 (checkS k K O N nx ou).1 (checkS k K O N nx ou).2 := by
  unfold l_machine_Check checkS l_machine_beyond beyondS
  rw [head_eq]
  by_cases h : headS k K O N nx ou = 0
  · rw [br_ne' h, if_neg (by simpa using h), br_pos h1]
    cases hf : findP (bad N) nx with
    | some i => simp only [br_pos (show ((i : Nat) : Int) ≥ 0 by omega)]
    | none =>
      simp only [br_neg (show ¬ ((-1 : Int) ≥ 0) by omega), br_pos h2]
      cases hg : findP (bad O) ou with
      | some i => simp only [br_pos (show ((i : Nat) : Int) ≥ 0 by omega)]
      | none => simp only [br_neg (show ¬ ((-1 : Int) ≥ 0) by omega)]
  · rw [br_ne h, if_pos (by simpa using h)]

/-- text.Export -/
def l_text_Export {R : Type} (m m_1 m_2 m_3 : Int) (m_4 m_5 : List Int) (K0 : Int → List Int → Option R) : Option R := l_Export m m_1 m_2 m_3 m_4 m_5 (fun xs e => K0 e xs)

theorem exp_eq {R : Type} {m m_1 m_2 m_3 : Int} {m_4 m_5 : List Int} (h1 : okL m_4) (h2 : okL m_5) (K0 : Int → List Int → Option R) :
    l_text_Export m m_1 m_2 m_3 m_4 m_5 K0 = K0 (exportS m m_1 m_2 m_3 m_4 m_5).2 (exportS m m_1 m_2 m_3 m_4 m_5).1 := export_eq h1 h2 _

/-- (*tutor/text.reader).want -/
def s_text_reader_want_none_1 {R : Type} (g50_1 : ByteArray → Int → (List Int) → Int → Option R) (K0 : (List Int) → Int → Int → Int → Option R) (K1 : (List Int) → Int → Option R) (s : ByteArray) (i : Int) (o0 : List Int) (o0_1 : Int) : Option R :=
  bi (decide (i < (s.size : Int)))
   (bi (o0_1 == (o0.length : Int))
    (K0 o0 o0_1 6 o0_1)
    (bi (decide (0 ≤ o0_1 ∧ o0_1 < ((o0.length : Nat) : Int)))
     (bi (decide (0 ≤ i ∧ i < ((s.size : Nat) : Int)))
      (bi ((o0.getD o0_1.toNat 0) != ((s.data.toList.getD i.toNat 0).toNat : Int))
       (K0 o0 o0_1 6 o0_1)
       (g50_1 s (IntKind.i64.wrap (i + 1)) o0 (IntKind.i64.wrap (o0_1 + 1))))
      none)
     none))
   (K1 o0 o0_1)

/-- (*tutor/text.reader).want -/
def e_text_reader_want_none {R : Type} (g50_1 : ByteArray → Int → (List Int) → Int → Option R) (K0 : (List Int) → Int → Int → Int → Option R) (K1 : (List Int) → Int → Option R) (s : ByteArray) (o0 : List Int) (o0_1 : Int) : Option R :=
  g50_1 s 0 o0 o0_1

def run_text_reader_want_none {R : Type} (K0 : (List Int) → Int → Int → Int → Option R) (K1 : (List Int) → Int → Option R) : Nat → ByteArray → Int → (List Int) → Int → Option R
  | 0 => fun _ _ _ _ => none
  | n + 1 => s_text_reader_want_none_1 (run_text_reader_want_none K0 K1 n) K0 K1

def l_text_reader_want_none {R : Type} (s : ByteArray) (o0 : List Int) (o0_1 : Int) (K0 : (List Int) → Int → Int → Int → Option R) (K1 : (List Int) → Int → Option R) : Option R := evl fun fuel => e_text_reader_want_none (run_text_reader_want_none K0 K1 fuel) K0 K1 s o0 o0_1

theorem ok_text_reader_want_none {R : Type} (s : ByteArray) (o0 : List Int) (o0_1 : Int) (K0 : (List Int) → Int → Int → Int → Option R) (K1 : (List Int) → Int → Option R) {r : R} (h : l_text_reader_want_none s o0 o0_1 K0 K1 = some r) : ∃ fuel, e_text_reader_want_none (run_text_reader_want_none K0 K1 fuel) K0 K1 s o0 o0_1 = some r := evl_ok h

theorem want_run {R : Type} {b : List Int} (hs : short b) (s : ByteArray) (hz : s.size ≤ 1000) (K0 : List Int → Int → Int → Int → Option R) (K1 : List Int → Int → Option R) :
    ∀ (d i a : Nat), i + d = s.size → a ≤ b.length →
      Reach (fun m => run_text_reader_want_none K0 K1 m s (i : Int) b (a : Int)) (match wantS ((bts s).drop i) b a with | .inl e => K0 b e.2 e.1 e.2 | .inr c => K1 b (c : Int)) := by
  have hl : (bts s).length = s.size := by simp [bts]
  unfold short at hs
  intro d
  induction d with
  | zero =>
    intro i a hi ha
    refine .now fun m => ?_
    rw [show run_text_reader_want_none K0 K1 (m + 1) = s_text_reader_want_none_1 (run_text_reader_want_none K0 K1 m) K0 K1 from rfl]
    unfold s_text_reader_want_none_1
    rw [br_neg (by omega), List.drop_of_length_le (by omega)]
    rfl
  | succ d ih =>
    intro i a hi ha
    have hlt : i < (bts s).length := by omega
    have hget : (bts s)[i] = ((s.data.toList.getD i 0).toNat : Int) := by
      simp [bts, List.getD_eq_getElem?_getD, List.getElem?_eq_getElem (show i < s.data.toList.length by simpa [bts] using hlt)]
    rw [List.drop_eq_getElem_cons hlt, hget]
    unfold wantS
    by_cases h1 : a = b.length
    · refine .now fun m => ?_
      rw [show run_text_reader_want_none K0 K1 (m + 1) = s_text_reader_want_none_1 (run_text_reader_want_none K0 K1 m) K0 K1 from rfl]
      unfold s_text_reader_want_none_1
      rw [br_pos (by omega), br_eq (by omega), if_neg (by rw [List.getElem?_eq_none (by omega)]; simp)]
    · have hab : a < b.length := by omega
      by_cases h2 : b[a] = ((s.data.toList.getD i 0).toNat : Int)
      · rw [if_pos (by rw [List.getElem?_eq_getElem hab, h2])]
        refine .step (fun m => ?_) (ih (i + 1) (a + 1) (by omega) (by omega))
        rw [show run_text_reader_want_none K0 K1 (m + 1) = s_text_reader_want_none_1 (run_text_reader_want_none K0 K1 m) K0 K1 from rfl]
        unfold s_text_reader_want_none_1
        rw [br_pos (by omega), br_eq' (by omega), br_pos (by omega), br_pos (by omega), Int.toNat_natCast, Int.toNat_natCast, getD_of 0 hab, br_ne' h2, wr ((i : Int) + 1) (by omega) (by omega), wr ((a : Int) + 1) (by omega) (by omega)]
        rfl
      · rw [if_neg (by rw [List.getElem?_eq_getElem hab]; simpa using h2)]
        refine .now fun m => ?_
        rw [show run_text_reader_want_none K0 K1 (m + 1) = s_text_reader_want_none_1 (run_text_reader_want_none K0 K1 m) K0 K1 from rfl]
        unfold s_text_reader_want_none_1
        rw [br_pos (by omega), br_eq' (by omega), br_pos (by omega), br_pos (by omega), Int.toNat_natCast, Int.toNat_natCast, getD_of 0 hab, br_ne h2]

theorem want_ok {R : Type} {b : List Int} (hs : short b) {s : ByteArray} (hz : s.size ≤ 1000) {a c : Nat} (ha : a ≤ b.length) (h : wantS (bts s) b a = .inr c) (K0 : List Int → Int → Int → Int → Option R) (K1 : List Int → Int → Option R) :
    l_text_reader_want_none s b (a : Int) K0 K1 = K1 b (c : Int) := by
  refine evl_eq (Reach.of_eq (want_run hs s hz K0 K1 s.size 0 a (by omega) ha) ?_)
  rw [List.drop_zero, h]

theorem want_bad {R : Type} {b : List Int} (hs : short b) {s : ByteArray} (hz : s.size ≤ 1000) {a : Nat} {e : Int × Int} (ha : a ≤ b.length) (h : wantS (bts s) b a = .inl e) (K0 : List Int → Int → Int → Int → Option R) (K1 : List Int → Int → Option R) :
    l_text_reader_want_none s b (a : Int) K0 K1 = K0 b e.2 e.1 e.2 := by
  refine evl_eq (Reach.of_eq (want_run hs s hz K0 K1 s.size 0 a (by omega) ha) ?_)
  rw [List.drop_zero, h]

/-- (*tutor/text.reader).number -/
def l_text_reader_number_fault {R : Type} (low : Int) (high : Int) (kind : Int) (o0 : List Int) (o0_1 : Int) (o1 : Int) (o1_1 : Int) (K0 : Int → (List Int) → Int → Int → Int → Option R) : Option R :=
  K0 0 o0 o0_1 o1 o1_1

theorem numf_eq {R : Type} (lo hi kd : Int) (b : List Int) (a k p : Int) (K0 : Int → List Int → Int → Int → Int → Option R) : l_text_reader_number_fault lo hi kd b a k p K0 = K0 0 b a k p := rfl

/-- (*tutor/text.reader).want -/
def s_text_reader_want_fault_1 {R : Type} (g50b_1 : ByteArray → Int → (List Int) → Int → Int → Int → Option R) (K0 : (List Int) → Int → Int → Int → Option R) (s : ByteArray) (i : Int) (o0 : List Int) (o0_1 : Int) (o1 : Int) (o1_1 : Int) : Option R :=
  bi (decide (i < (s.size : Int)))
   (K0 o0 o0_1 o1 o1_1)
   (K0 o0 o0_1 o1 o1_1)

/-- (*tutor/text.reader).want -/
def e_text_reader_want_fault {R : Type} (g50b_1 : ByteArray → Int → (List Int) → Int → Int → Int → Option R) (K0 : (List Int) → Int → Int → Int → Option R) (s : ByteArray) (o0 : List Int) (o0_1 : Int) (o1 : Int) (o1_1 : Int) : Option R :=
  g50b_1 s 0 o0 o0_1 o1 o1_1

def run_text_reader_want_fault {R : Type} (K0 : (List Int) → Int → Int → Int → Option R) : Nat → ByteArray → Int → (List Int) → Int → Int → Int → Option R
  | 0 => fun _ _ _ _ _ _ => none
  | n + 1 => s_text_reader_want_fault_1 (run_text_reader_want_fault K0 n) K0

def l_text_reader_want_fault {R : Type} (s : ByteArray) (o0 : List Int) (o0_1 : Int) (o1 : Int) (o1_1 : Int) (K0 : (List Int) → Int → Int → Int → Option R) : Option R := evl fun fuel => e_text_reader_want_fault (run_text_reader_want_fault K0 fuel) K0 s o0 o0_1 o1 o1_1

theorem ok_text_reader_want_fault {R : Type} (s : ByteArray) (o0 : List Int) (o0_1 : Int) (o1 : Int) (o1_1 : Int) (K0 : (List Int) → Int → Int → Int → Option R) {r : R} (h : l_text_reader_want_fault s o0 o0_1 o1 o1_1 K0 = some r) : ∃ fuel, e_text_reader_want_fault (run_text_reader_want_fault K0 fuel) K0 s o0 o0_1 o1 o1_1 = some r := evl_ok h

theorem wantf_eq {R : Type} (s : ByteArray) (b : List Int) (a k p : Int) (K0 : List Int → Int → Int → Int → Option R) : l_text_reader_want_fault s b a k p K0 = K0 b a k p := by
  refine evl_eq (.now fun m => ?_)
  unfold e_text_reader_want_fault
  rw [show run_text_reader_want_fault K0 (m + 1) = s_text_reader_want_fault_1 (run_text_reader_want_fault K0 m) K0 from rfl]
  unfold s_text_reader_want_fault_1
  exact br_same _

/-- tutor/text.Number -/
def s_text_Number_4 {R : Type} (g21_4 : (List Int) → Int → Int → Int → Option R) (K0 : Int → Int → Int → Option R) (b : List Int) (vat : Int) (n : Int) (i : Int) : Option R :=
  bi (decide (i < (b.length : Int)))
   (bi (decide (0 ≤ i ∧ i < ((b.length : Nat) : Int)))
    (bi (decide ((b.getD i.toNat 0) ≥ 48))
     (bi (decide (0 ≤ i ∧ i < ((b.length : Nat) : Int)))
      (bi (decide ((b.getD i.toNat 0) ≤ 57))
       (bi ((IntKind.i64.wrap (i - vat)) == 4)
        (K0 0 i 6)
        (bi ((IntKind.i64.wrap (i - vat)) == 1)
         (bi (decide (0 ≤ vat ∧ vat < ((b.length : Nat) : Int)))
          (bi ((b.getD vat.toNat 0) == 48)
           (K0 0 i 6)
           (bi (decide (0 ≤ i ∧ i < ((b.length : Nat) : Int)))
            (g21_4 b vat (IntKind.i64.wrap ((IntKind.i64.wrap (10 * n)) + (IntKind.i64.wrap (IntKind.u8.wrap ((b.getD i.toNat 0) - 48))))) (IntKind.i64.wrap (i + 1)))
            none))
          none)
         (bi (decide (0 ≤ i ∧ i < ((b.length : Nat) : Int)))
          (g21_4 b vat (IntKind.i64.wrap ((IntKind.i64.wrap (10 * n)) + (IntKind.i64.wrap (IntKind.u8.wrap ((b.getD i.toNat 0) - 48))))) (IntKind.i64.wrap (i + 1)))
          none)))
       (bi (i == vat)
        (K0 0 vat 6)
        (K0 n i 0)))
      none)
     (bi (i == vat)
      (K0 0 vat 6)
      (K0 n i 0)))
    none)
   (bi (i == vat)
    (K0 0 vat 6)
    (K0 n i 0))

/-- tutor/text.Number -/
def e_text_Number {R : Type} (g21_4 : (List Int) → Int → Int → Int → Option R) (K0 : Int → Int → Int → Option R) (b : List Int) (vat : Int) : Option R :=
  bi (decide (vat < 0))
   (K0 0 0 1)
   (bi (decide (vat > (b.length : Int)))
    (K0 0 0 1)
    (g21_4 b vat 0 vat))

def run_text_Number {R : Type} (K0 : Int → Int → Int → Option R) : Nat → (List Int) → Int → Int → Int → Option R
  | 0 => fun _ _ _ _ => none
  | n + 1 => s_text_Number_4 (run_text_Number K0 n) K0

def l_text_Number {R : Type} (b : List Int) (vat : Int) (K0 : Int → Int → Int → Option R) : Option R := bi (decide (short b)) (K0 (numS b vat).1 (numS b vat).2.1 (numS b vat).2.2) none

theorem number_run {R : Type} {b : List Int} (hs : short b) {a : Nat} (ha : a ≤ b.length) (K0 : Int → Int → Int → Option R) :
    ∀ (d i k : Nat) (z : Bool) (n : Int), i + d = b.length → i = a + k → k ≤ 4 → 0 ≤ n → n < 10 ^ k → (0 < k → z = decide (b.getD a 0 = 48)) →
      Reach (fun m => run_text_Number K0 m b (a : Int) n (i : Int)) (K0 (numR (b.drop i) k z n).1 ((a : Int) + (numR (b.drop i) k z n).2.1) (numR (b.drop i) k z n).2.2) := by
  unfold short at hs
  intro d
  induction d with
  | zero =>
    intro i k z n hi hk hk4 hn0 hn1 hz
    refine .now fun m => ?_
    rw [show run_text_Number K0 (m + 1) = s_text_Number_4 (run_text_Number K0 m) K0 from rfl]
    unfold s_text_Number_4
    rw [br_neg (by omega), List.drop_of_length_le (by omega)]
    simp only [numR]
    by_cases c : k = 0
    · rw [if_pos c, br_eq (by omega)]
      simp
    · rw [if_neg c, br_eq' (by omega)]
      dsimp only
      congr 1
      omega
  | succ d ih =>
    intro i k z n hi hk hk4 hn0 hn1 hz
    have h1 : i < b.length := by omega
    have n4 : n < 10000 := by
      have : (10 : Int) ^ k ≤ 10 ^ 4 := by
        have : (10 : Nat) ^ k ≤ 10 ^ 4 := Nat.pow_le_pow_right (by decide) hk4
        exact_mod_cast this
      omega
    rw [List.drop_eq_getElem_cons h1]
    simp only [numR]
    have stop : ∀ m : Nat, (bi ((i : Int) == (a : Int)) (K0 0 (a : Int) 6) (K0 n (i : Int) 0)) = K0 (if k = 0 then ((0 : Int), 0, (6 : Int)) else (n, k, 0)).1 ((a : Int) + (if k = 0 then ((0 : Int), 0, (6 : Int)) else (n, k, 0)).2.1) (if k = 0 then ((0 : Int), 0, (6 : Int)) else (n, k, 0)).2.2 := by
      intro _
      by_cases c : k = 0
      · rw [if_pos c, br_eq (by omega)]
        simp
      · rw [if_neg c, br_eq' (by omega)]
        dsimp only
        congr 1
        omega
    by_cases c1 : isDig b[i]
    · rw [if_pos c1]
      have c1' := c1
      unfold isDig at c1'
      by_cases c2 : k = 4 ∨ (k = 1 ∧ z = true)
      · rw [if_pos c2]
        refine .now fun m => ?_
        rw [show run_text_Number K0 (m + 1) = s_text_Number_4 (run_text_Number K0 m) K0 from rfl]
        unfold s_text_Number_4
        rw [br_pos (by omega), br_pos (by omega), Int.toNat_natCast, getD_of 0 h1, br_pos (by omega), br_pos (by omega), br_pos (by omega), wr ((i : Int) - a) (by omega) (by omega)]
        rcases c2 with c2 | ⟨c2, c3⟩
        · rw [br_eq (by omega)]
          dsimp only
          congr 1
          omega
        · have hz := hz (by omega)
          rw [c3] at hz
          have hz := of_decide_eq_true hz.symm
          rw [br_eq' (by omega), br_eq (by omega), br_pos (by omega), Int.toNat_natCast, hz, br_eq rfl]
          dsimp only
          congr 1
          omega
      · rw [if_neg c2]
        have hp : (10 : Int) ^ (k + 1) = 10 ^ k * 10 := Int.pow_succ 10 k
        refine .step (fun m => ?_) (ih (i + 1) (k + 1) _ (10 * n + (b[i] - 48)) (by omega) (by omega) (by omega) (by omega) (by omega) ?_)
        · rw [show run_text_Number K0 (m + 1) = s_text_Number_4 (run_text_Number K0 m) K0 from rfl]
          unfold s_text_Number_4
          rw [br_pos (by omega), br_pos (by omega), Int.toNat_natCast, getD_of 0 h1, br_pos (by omega), br_pos (by omega), br_pos (by omega), wr ((i : Int) - a) (by omega) (by omega), br_eq' (by omega)]
          have e1 : IntKind.i64.wrap (IntKind.i64.wrap (10 * n) + IntKind.i64.wrap (IntKind.u8.wrap (b[i] - 48))) = 10 * n + (b[i] - 48) := by
            rw [wr (10 * n) (by omega) (by omega), wr8 (b[i] - 48) (by omega) (by omega), wr (b[i] - 48) (by omega) (by omega), wr _ (by omega) (by omega)]
          rw [e1, wr ((i : Int) + 1) (by omega) (by omega)]
          by_cases c3 : k = 1
          · have hz := hz (by omega)
            have hzf : ¬ b.getD a 0 = 48 := by
              intro h
              exact c2 (.inr ⟨c3, by rw [hz]; exact decide_eq_true h⟩)
            rw [br_eq (by omega), br_pos (by omega), Int.toNat_natCast, br_eq' hzf, br_pos (by omega)]
            rfl
          · rw [br_eq' (by omega), br_pos (by omega)]
            rfl
        · intro _
          by_cases c3 : k = 0
          · rw [if_pos c3]
            have e : i = a := by omega
            subst e
            rw [getD_of 0 h1]
          · rw [if_neg c3]
            exact hz (by omega)
    · rw [if_neg c1]
      refine .now fun m => ?_
      rw [show run_text_Number K0 (m + 1) = s_text_Number_4 (run_text_Number K0 m) K0 from rfl]
      unfold s_text_Number_4
      rw [br_pos (by omega), br_pos (by omega), Int.toNat_natCast, getD_of 0 h1]
      unfold isDig at c1
      by_cases c2 : b[i] ≥ 48
      · rw [br_pos c2, br_pos (by omega), br_neg (by omega)]
        exact stop m
      · rw [br_neg c2]
        exact stop m

theorem ok_text_Number {R : Type} (b : List Int) (vat : Int) (K0 : Int → Int → Int → Option R) {r : R} (h : l_text_Number b vat K0 = some r) : ∃ fuel, e_text_Number (run_text_Number K0 fuel) K0 b vat = some r := by
  unfold l_text_Number at h
  rcases bi_some h with ⟨hs, h⟩ | ⟨_, h⟩
  · have hs : short b := of_decide_eq_true hs
    rw [← h]
    unfold numS
    by_cases c : vat < 0
    · rw [if_pos (.inl c)]
      exact ⟨0, by unfold e_text_Number; rw [br_pos c]⟩
    · by_cases c2 : vat > (b.length : Int)
      · rw [if_pos (.inr c2)]
        exact ⟨0, by unfold e_text_Number; rw [br_neg c, br_pos c2]⟩
      · rw [if_neg (by omega)]
        obtain ⟨a, rfl⟩ : ∃ a : Nat, vat = a := ⟨vat.toNat, by omega⟩
        obtain ⟨n, hn⟩ := (number_run hs (a := a) (by omega) K0 (b.length - a) a 0 false 0 (by omega) (by omega) (by omega) (by omega) (by omega) (by omega)).get
        refine ⟨n, ?_⟩
        unfold e_text_Number
        rw [br_neg c, br_neg c2, hn, Int.toNat_natCast]
        rfl
  · cases h

theorem number_eq {R : Type} {b : List Int} (hs : short b) (vat : Int) (K0 : Int → Int → Int → Option R) : l_text_Number b vat K0 = K0 (numS b vat).1 (numS b vat).2.1 (numS b vat).2.2 := br_pos hs

/-- (*tutor/text.reader).number -/
def l_text_reader_number_none {R : Type} (low : Int) (high : Int) (kind : Int) (o0 : List Int) (o0_1 : Int) (K0 : Int → (List Int) → Int → Int → Int → Option R) (K1 : Int → (List Int) → Int → Option R) : Option R :=
  l_text_Number o0 o0_1
   (fun r1 r2 r3 =>
    bi (r3 != 0)
     (K0 r1 o0 r2 r3 r2)
     (bi (decide (r1 < low))
      (K0 r1 o0 r2 kind o0_1)
      (bi (decide (r1 > high))
       (K0 r1 o0 r2 kind o0_1)
       (K1 r1 o0 r2))))

theorem numS_at {b : List Int} {a : Nat} (ha : a ≤ b.length) : numS b (a : Int) = ((numL (b.drop a)).1, ((a + (numL (b.drop a)).2.1 : Nat) : Int), (numL (b.drop a)).2.2) := by
  unfold numS
  rw [if_neg (by omega), Int.toNat_natCast]
  simp

theorem num_ok {R : Type} {b : List Int} (hs : short b) {lo hi kd : Int} {a : Nat} {q : Int × Nat} (ha : a ≤ b.length) (h : numbS lo hi kd b a = .inr q) (K0 : Int → List Int → Int → Int → Int → Option R) (K1 : Int → List Int → Int → Option R) :
    l_text_reader_number_none lo hi kd b (a : Int) K0 K1 = K1 q.1 b (q.2 : Int) := by
  unfold l_text_reader_number_none
  rw [number_eq hs, numS_at ha]
  obtain ⟨h1, h2, h3, h4⟩ := numbS_ok h
  rw [h1]
  rw [br_ne' rfl, br_neg (by simp; omega), br_neg (by simp; omega)]
  simp only
  rw [show a + (q.2 - a) = q.2 by omega]

theorem num_bad {R : Type} {b : List Int} (hs : short b) {lo hi kd : Int} {a : Nat} {e : Int × Int} (ha : a ≤ b.length) (h : numbS lo hi kd b a = .inl e) (K0 : Int → List Int → Int → Int → Int → Option R) (K1 : Int → List Int → Int → Option R) :
    l_text_reader_number_none lo hi kd b (a : Int) K0 K1 = K0 (numL (b.drop a)).1 b ((a + (numL (b.drop a)).2.1 : Nat) : Int) e.1 e.2 := by
  unfold l_text_reader_number_none
  rw [number_eq hs, numS_at ha]
  unfold numbS at h
  by_cases h1 : (numL (b.drop a)).2.2 ≠ 0
  · rw [if_pos h1] at h
    cases h
    rw [br_ne h1]
  · rw [if_neg h1] at h
    rw [br_ne' (Decidable.not_not.1 h1)]
    by_cases h2 : (numL (b.drop a)).1 < lo ∨ hi < (numL (b.drop a)).1
    · rw [if_pos h2] at h
      cases h
      by_cases h3 : (numL (b.drop a)).1 < lo
      · rw [br_pos h3]
      · rw [br_neg h3, br_pos (by simp; omega)]
    · rw [if_neg h2] at h
      cases h

/-- (*tutor/text.reader).read -/
def s_text_reader_read_none_15a {R : Type} (g38_15 : Int → (List Int) → Int → Int → Int → Int → Int → Int → Int → (List Int) → (List Int) → Int → Int → Int → Int → (List Int) → (List Int) → Option R) (g38_15b : Int → (List Int) → Int → Int → Int → Int → Int → (List Int) → (List Int) → Int → Int → Int → Int → (List Int) → (List Int) → Option R) (g38_19 : Int → (List Int) → Int → Int → Int → Int → Int → Int → Int → (List Int) → (List Int) → Int → Int → Int → Int → (List Int) → (List Int) → Option R) (g38_19b : Int → (List Int) → Int → Int → Int → Int → Int → (List Int) → (List Int) → Int → Int → Int → Int → (List Int) → (List Int) → Option R) (g38_20 : Int → Int → (List Int) → Int → Int → Int → Int → Int → Int → Int → (List Int) → (List Int) → Int → Int → Int → Int → (List Int) → (List Int) → Option R) (g38_20b : Int → Int → (List Int) → Int → Int → Int → Int → Int → (List Int) → (List Int) → Int → Int → Int → Int → (List Int) → (List Int) → Option R) (g38_25 : Int → Int → (List Int) → Int → Int → Int → Int → Int → Int → Int → (List Int) → (List Int) → Int → Int → Int → Int → (List Int) → (List Int) → Option R) (g38_25b : Int → Int → (List Int) → Int → Int → Int → Int → Int → (List Int) → (List Int) → Int → Int → Int → Int → (List Int) → (List Int) → Option R) (g38_21 : Int → Int → (List Int) → Int → Int → Int → Int → Int → Int → Int → (List Int) → (List Int) → Int → Int → Int → Int → (List Int) → (List Int) → Option R) (g38_21b : Int → Int → (List Int) → Int → Int → Int → Int → Int → (List Int) → (List Int) → Int → Int → Int → Int → (List Int) → (List Int) → Option R) (K0 : Int → Int → Int → Int → (List Int) → Int → Int → Int → (List Int) → (List Int) → Option R) (K1 : Int → Int → Int → Int → (List Int) → Int → (List Int) → (List Int) → Option R) (s : Int) (o0 : List Int) (o0_1 : Int) (o1 : Int) (o1_1 : Int) (o2 : Int) (o2_1 : Int) (o2_2 : Int) (o2_3 : Int) (o3 : List Int) (o4 : List Int) (o5 : Int) (o5_1 : Int) (o5_2 : Int) (o5_3 : Int) (o6 : List Int) (o7 : List Int) : Option R :=
  bi (decide (s < o5_3))
   (K0 o5 o5_1 o5_2 o5_3 o0 o0_1 o1 o1_1 o6 o7)
   (K0 o5 o5_1 o5_2 o5_3 o0 o0_1 o1 o1_1 o6 o7)

/-- (*tutor/text.reader).read -/
def s_text_reader_read_none_15b {R : Type} (g38_15 : Int → (List Int) → Int → Int → Int → Int → Int → Int → Int → (List Int) → (List Int) → Int → Int → Int → Int → (List Int) → (List Int) → Option R) (g38_15b : Int → (List Int) → Int → Int → Int → Int → Int → (List Int) → (List Int) → Int → Int → Int → Int → (List Int) → (List Int) → Option R) (g38_19 : Int → (List Int) → Int → Int → Int → Int → Int → Int → Int → (List Int) → (List Int) → Int → Int → Int → Int → (List Int) → (List Int) → Option R) (g38_19b : Int → (List Int) → Int → Int → Int → Int → Int → (List Int) → (List Int) → Int → Int → Int → Int → (List Int) → (List Int) → Option R) (g38_20 : Int → Int → (List Int) → Int → Int → Int → Int → Int → Int → Int → (List Int) → (List Int) → Int → Int → Int → Int → (List Int) → (List Int) → Option R) (g38_20b : Int → Int → (List Int) → Int → Int → Int → Int → Int → (List Int) → (List Int) → Int → Int → Int → Int → (List Int) → (List Int) → Option R) (g38_25 : Int → Int → (List Int) → Int → Int → Int → Int → Int → Int → Int → (List Int) → (List Int) → Int → Int → Int → Int → (List Int) → (List Int) → Option R) (g38_25b : Int → Int → (List Int) → Int → Int → Int → Int → Int → (List Int) → (List Int) → Int → Int → Int → Int → (List Int) → (List Int) → Option R) (g38_21 : Int → Int → (List Int) → Int → Int → Int → Int → Int → Int → Int → (List Int) → (List Int) → Int → Int → Int → Int → (List Int) → (List Int) → Option R) (g38_21b : Int → Int → (List Int) → Int → Int → Int → Int → Int → (List Int) → (List Int) → Int → Int → Int → Int → (List Int) → (List Int) → Option R) (K0 : Int → Int → Int → Int → (List Int) → Int → Int → Int → (List Int) → (List Int) → Option R) (K1 : Int → Int → Int → Int → (List Int) → Int → (List Int) → (List Int) → Option R) (s : Int) (o0 : List Int) (o0_1 : Int) (o1 : Int) (o1_1 : Int) (o1_2 : Int) (o1_3 : Int) (o2 : List Int) (o3 : List Int) (o4 : Int) (o4_1 : Int) (o4_2 : Int) (o4_3 : Int) (o5 : List Int) (o6 : List Int) : Option R :=
  bi (decide (s < o4_3))
   (bi (o4 == 1)
    (both
     (l_text_reader_number_none 0 1 33 o0 o0_1
      (fun r298 r299 r300 r301 r302 =>
       bi (decide ((o6.length + [r298].length) * 8 ≤ lim))
        (g38_19 s r299 r300 r301 r302 o1 o1_1 o1_2 o1_3 o2 o3 o4 o4_1 o4_2 o4_3 o5 (o6 ++ [r298]))
        none)
      (fun r303 r304 r305 =>
       bi (decide ((o6.length + [r303].length) * 8 ≤ lim))
        (g38_19b s r304 r305 o1 o1_1 o1_2 o1_3 o2 o3 o4 o4_1 o4_2 o4_3 o5 (o6 ++ [r303]))
        none))
     (l_text_reader_number_none 0 1 33 o0 o0_1
      (fun r298 r299 r300 r301 r302 =>
       twice
        (bi (decide ((o6.length + [r298].length) * 8 ≤ lim))
         (g38_19 s r299 r300 r301 r302 o1 o1_1 o1_2 o1_3 o2 o3 o4 o4_1 o4_2 o4_3 o5 (o6 ++ [r298]))
         none))
      (fun r303 r304 r305 =>
       twice
        (bi (decide ((o6.length + [r303].length) * 8 ≤ lim))
         (g38_19b s r304 r305 o1 o1_1 o1_2 o1_3 o2 o3 o4 o4_1 o4_2 o4_3 o5 (o6 ++ [r303]))
         none))))
    (g38_19b s o0 o0_1 o1 o1_1 o1_2 o1_3 o2 o3 o4 o4_1 o4_2 o4_3 o5 o6))
   (bi (decide (o0_1 < (o0.length : Int)))
    (K0 o4 o4_1 o4_2 o4_3 o0 o0_1 6 o0_1 o5 o6)
    (K1 o4 o4_1 o4_2 o4_3 o0 o0_1 o5 o6))

/-- (*tutor/text.reader).read -/
def s_text_reader_read_none_19a {R : Type} (g38_15 : Int → (List Int) → Int → Int → Int → Int → Int → Int → Int → (List Int) → (List Int) → Int → Int → Int → Int → (List Int) → (List Int) → Option R) (g38_15b : Int → (List Int) → Int → Int → Int → Int → Int → (List Int) → (List Int) → Int → Int → Int → Int → (List Int) → (List Int) → Option R) (g38_19 : Int → (List Int) → Int → Int → Int → Int → Int → Int → Int → (List Int) → (List Int) → Int → Int → Int → Int → (List Int) → (List Int) → Option R) (g38_19b : Int → (List Int) → Int → Int → Int → Int → Int → (List Int) → (List Int) → Int → Int → Int → Int → (List Int) → (List Int) → Option R) (g38_20 : Int → Int → (List Int) → Int → Int → Int → Int → Int → Int → Int → (List Int) → (List Int) → Int → Int → Int → Int → (List Int) → (List Int) → Option R) (g38_20b : Int → Int → (List Int) → Int → Int → Int → Int → Int → (List Int) → (List Int) → Int → Int → Int → Int → (List Int) → (List Int) → Option R) (g38_25 : Int → Int → (List Int) → Int → Int → Int → Int → Int → Int → Int → (List Int) → (List Int) → Int → Int → Int → Int → (List Int) → (List Int) → Option R) (g38_25b : Int → Int → (List Int) → Int → Int → Int → Int → Int → (List Int) → (List Int) → Int → Int → Int → Int → (List Int) → (List Int) → Option R) (g38_21 : Int → Int → (List Int) → Int → Int → Int → Int → Int → Int → Int → (List Int) → (List Int) → Int → Int → Int → Int → (List Int) → (List Int) → Option R) (g38_21b : Int → Int → (List Int) → Int → Int → Int → Int → Int → (List Int) → (List Int) → Int → Int → Int → Int → (List Int) → (List Int) → Option R) (K0 : Int → Int → Int → Int → (List Int) → Int → Int → Int → (List Int) → (List Int) → Option R) (K1 : Int → Int → Int → Int → (List Int) → Int → (List Int) → (List Int) → Option R) (s : Int) (o0 : List Int) (o0_1 : Int) (o1 : Int) (o1_1 : Int) (o2 : Int) (o2_1 : Int) (o2_2 : Int) (o2_3 : Int) (o3 : List Int) (o4 : List Int) (o5 : Int) (o5_1 : Int) (o5_2 : Int) (o5_3 : Int) (o6 : List Int) (o7 : List Int) : Option R :=
  g38_20 s 0 o0 o0_1 o1 o1_1 o2 o2_1 o2_2 o2_3 o3 o4 o5 o5_1 o5_2 o5_3 o6 o7

/-- (*tutor/text.reader).read -/
def s_text_reader_read_none_19b {R : Type} (g38_15 : Int → (List Int) → Int → Int → Int → Int → Int → Int → Int → (List Int) → (List Int) → Int → Int → Int → Int → (List Int) → (List Int) → Option R) (g38_15b : Int → (List Int) → Int → Int → Int → Int → Int → (List Int) → (List Int) → Int → Int → Int → Int → (List Int) → (List Int) → Option R) (g38_19 : Int → (List Int) → Int → Int → Int → Int → Int → Int → Int → (List Int) → (List Int) → Int → Int → Int → Int → (List Int) → (List Int) → Option R) (g38_19b : Int → (List Int) → Int → Int → Int → Int → Int → (List Int) → (List Int) → Int → Int → Int → Int → (List Int) → (List Int) → Option R) (g38_20 : Int → Int → (List Int) → Int → Int → Int → Int → Int → Int → Int → (List Int) → (List Int) → Int → Int → Int → Int → (List Int) → (List Int) → Option R) (g38_20b : Int → Int → (List Int) → Int → Int → Int → Int → Int → (List Int) → (List Int) → Int → Int → Int → Int → (List Int) → (List Int) → Option R) (g38_25 : Int → Int → (List Int) → Int → Int → Int → Int → Int → Int → Int → (List Int) → (List Int) → Int → Int → Int → Int → (List Int) → (List Int) → Option R) (g38_25b : Int → Int → (List Int) → Int → Int → Int → Int → Int → (List Int) → (List Int) → Int → Int → Int → Int → (List Int) → (List Int) → Option R) (g38_21 : Int → Int → (List Int) → Int → Int → Int → Int → Int → Int → Int → (List Int) → (List Int) → Int → Int → Int → Int → (List Int) → (List Int) → Option R) (g38_21b : Int → Int → (List Int) → Int → Int → Int → Int → Int → (List Int) → (List Int) → Int → Int → Int → Int → (List Int) → (List Int) → Option R) (K0 : Int → Int → Int → Int → (List Int) → Int → Int → Int → (List Int) → (List Int) → Option R) (K1 : Int → Int → Int → Int → (List Int) → Int → (List Int) → (List Int) → Option R) (s : Int) (o0 : List Int) (o0_1 : Int) (o1 : Int) (o1_1 : Int) (o1_2 : Int) (o1_3 : Int) (o2 : List Int) (o3 : List Int) (o4 : Int) (o4_1 : Int) (o4_2 : Int) (o4_3 : Int) (o5 : List Int) (o6 : List Int) : Option R :=
  g38_20b s 0 o0 o0_1 o1 o1_1 o1_2 o1_3 o2 o3 o4 o4_1 o4_2 o4_3 o5 o6

/-- (*tutor/text.reader).read -/
def s_text_reader_read_none_20a {R : Type} (g38_15 : Int → (List Int) → Int → Int → Int → Int → Int → Int → Int → (List Int) → (List Int) → Int → Int → Int → Int → (List Int) → (List Int) → Option R) (g38_15b : Int → (List Int) → Int → Int → Int → Int → Int → (List Int) → (List Int) → Int → Int → Int → Int → (List Int) → (List Int) → Option R) (g38_19 : Int → (List Int) → Int → Int → Int → Int → Int → Int → Int → (List Int) → (List Int) → Int → Int → Int → Int → (List Int) → (List Int) → Option R) (g38_19b : Int → (List Int) → Int → Int → Int → Int → Int → (List Int) → (List Int) → Int → Int → Int → Int → (List Int) → (List Int) → Option R) (g38_20 : Int → Int → (List Int) → Int → Int → Int → Int → Int → Int → Int → (List Int) → (List Int) → Int → Int → Int → Int → (List Int) → (List Int) → Option R) (g38_20b : Int → Int → (List Int) → Int → Int → Int → Int → Int → (List Int) → (List Int) → Int → Int → Int → Int → (List Int) → (List Int) → Option R) (g38_25 : Int → Int → (List Int) → Int → Int → Int → Int → Int → Int → Int → (List Int) → (List Int) → Int → Int → Int → Int → (List Int) → (List Int) → Option R) (g38_25b : Int → Int → (List Int) → Int → Int → Int → Int → Int → (List Int) → (List Int) → Int → Int → Int → Int → (List Int) → (List Int) → Option R) (g38_21 : Int → Int → (List Int) → Int → Int → Int → Int → Int → Int → Int → (List Int) → (List Int) → Int → Int → Int → Int → (List Int) → (List Int) → Option R) (g38_21b : Int → Int → (List Int) → Int → Int → Int → Int → Int → (List Int) → (List Int) → Int → Int → Int → Int → (List Int) → (List Int) → Option R) (K0 : Int → Int → Int → Int → (List Int) → Int → Int → Int → (List Int) → (List Int) → Option R) (K1 : Int → Int → Int → Int → (List Int) → Int → (List Int) → (List Int) → Option R) (s : Int) (x : Int) (o0 : List Int) (o0_1 : Int) (o1 : Int) (o1_1 : Int) (o2 : Int) (o2_1 : Int) (o2_2 : Int) (o2_3 : Int) (o3 : List Int) (o4 : List Int) (o5 : Int) (o5_1 : Int) (o5_2 : Int) (o5_3 : Int) (o6 : List Int) (o7 : List Int) : Option R :=
  bi (decide (x < o5_1))
   (l_text_reader_want_fault (ByteArray.mk #[10]) o0 o0_1 o1 o1_1
    (fun r306 r307 r308 r309 =>
     g38_15 (IntKind.i64.wrap (s + 1)) r306 r307 r308 r309 o2 o2_1 o2_2 o2_3 o3 o4 o5 o5_1 o5_2 o5_3 o6 o7))
   (l_text_reader_want_fault (ByteArray.mk #[10]) o0 o0_1 o1 o1_1
    (fun r310 r311 r312 r313 =>
     g38_15 (IntKind.i64.wrap (s + 1)) r310 r311 r312 r313 o2 o2_1 o2_2 o2_3 o3 o4 o5 o5_1 o5_2 o5_3 o6 o7))

/-- (*tutor/text.reader).read -/
def s_text_reader_read_none_20b {R : Type} (g38_15 : Int → (List Int) → Int → Int → Int → Int → Int → Int → Int → (List Int) → (List Int) → Int → Int → Int → Int → (List Int) → (List Int) → Option R) (g38_15b : Int → (List Int) → Int → Int → Int → Int → Int → (List Int) → (List Int) → Int → Int → Int → Int → (List Int) → (List Int) → Option R) (g38_19 : Int → (List Int) → Int → Int → Int → Int → Int → Int → Int → (List Int) → (List Int) → Int → Int → Int → Int → (List Int) → (List Int) → Option R) (g38_19b : Int → (List Int) → Int → Int → Int → Int → Int → (List Int) → (List Int) → Int → Int → Int → Int → (List Int) → (List Int) → Option R) (g38_20 : Int → Int → (List Int) → Int → Int → Int → Int → Int → Int → Int → (List Int) → (List Int) → Int → Int → Int → Int → (List Int) → (List Int) → Option R) (g38_20b : Int → Int → (List Int) → Int → Int → Int → Int → Int → (List Int) → (List Int) → Int → Int → Int → Int → (List Int) → (List Int) → Option R) (g38_25 : Int → Int → (List Int) → Int → Int → Int → Int → Int → Int → Int → (List Int) → (List Int) → Int → Int → Int → Int → (List Int) → (List Int) → Option R) (g38_25b : Int → Int → (List Int) → Int → Int → Int → Int → Int → (List Int) → (List Int) → Int → Int → Int → Int → (List Int) → (List Int) → Option R) (g38_21 : Int → Int → (List Int) → Int → Int → Int → Int → Int → Int → Int → (List Int) → (List Int) → Int → Int → Int → Int → (List Int) → (List Int) → Option R) (g38_21b : Int → Int → (List Int) → Int → Int → Int → Int → Int → (List Int) → (List Int) → Int → Int → Int → Int → (List Int) → (List Int) → Option R) (K0 : Int → Int → Int → Int → (List Int) → Int → Int → Int → (List Int) → (List Int) → Option R) (K1 : Int → Int → Int → Int → (List Int) → Int → (List Int) → (List Int) → Option R) (s : Int) (x : Int) (o0 : List Int) (o0_1 : Int) (o1 : Int) (o1_1 : Int) (o1_2 : Int) (o1_3 : Int) (o2 : List Int) (o3 : List Int) (o4 : Int) (o4_1 : Int) (o4_2 : Int) (o4_3 : Int) (o5 : List Int) (o6 : List Int) : Option R :=
  bi (decide (x < o4_1))
   (bi (decide (x > 0))
    (l_text_reader_want_none (ByteArray.mk #[32]) o0 o0_1
     (fun r314 r315 r316 r317 =>
      both
       (l_text_reader_number_fault 0 (IntKind.i64.wrap (o4_3 - 1)) 32 r314 r315 r316 r317
        (fun r318 r319 r320 r321 r322 =>
         bi (decide ((o5.length + [r318].length) * 8 ≤ lim))
          (g38_25 s x r319 r320 r321 r322 o1 o1_1 o1_2 o1_3 o2 o3 o4 o4_1 o4_2 o4_3 (o5 ++ [r318]) o6)
          none))
       (l_text_reader_number_fault 0 (IntKind.i64.wrap (o4_3 - 1)) 32 r314 r315 r316 r317
        (fun r318 r319 r320 r321 r322 =>
         twice
          (bi (decide ((o5.length + [r318].length) * 8 ≤ lim))
           (g38_25 s x r319 r320 r321 r322 o1 o1_1 o1_2 o1_3 o2 o3 o4 o4_1 o4_2 o4_3 (o5 ++ [r318]) o6)
           none))))
     (fun r323 r324 =>
      both
       (l_text_reader_number_none 0 (IntKind.i64.wrap (o4_3 - 1)) 32 r323 r324
        (fun r325 r326 r327 r328 r329 =>
         bi (decide ((o5.length + [r325].length) * 8 ≤ lim))
          (g38_25 s x r326 r327 r328 r329 o1 o1_1 o1_2 o1_3 o2 o3 o4 o4_1 o4_2 o4_3 (o5 ++ [r325]) o6)
          none)
        (fun r330 r331 r332 =>
         bi (decide ((o5.length + [r330].length) * 8 ≤ lim))
          (g38_25b s x r331 r332 o1 o1_1 o1_2 o1_3 o2 o3 o4 o4_1 o4_2 o4_3 (o5 ++ [r330]) o6)
          none))
       (l_text_reader_number_none 0 (IntKind.i64.wrap (o4_3 - 1)) 32 r323 r324
        (fun r325 r326 r327 r328 r329 =>
         twice
          (bi (decide ((o5.length + [r325].length) * 8 ≤ lim))
           (g38_25 s x r326 r327 r328 r329 o1 o1_1 o1_2 o1_3 o2 o3 o4 o4_1 o4_2 o4_3 (o5 ++ [r325]) o6)
           none))
        (fun r330 r331 r332 =>
         twice
          (bi (decide ((o5.length + [r330].length) * 8 ≤ lim))
           (g38_25b s x r331 r332 o1 o1_1 o1_2 o1_3 o2 o3 o4 o4_1 o4_2 o4_3 (o5 ++ [r330]) o6)
           none)))))
    (bi (o4 == 1)
     (l_text_reader_want_none (ByteArray.mk #[32]) o0 o0_1
      (fun r333 r334 r335 r336 =>
       both
        (l_text_reader_number_fault 0 (IntKind.i64.wrap (o4_3 - 1)) 32 r333 r334 r335 r336
         (fun r337 r338 r339 r340 r341 =>
          bi (decide ((o5.length + [r337].length) * 8 ≤ lim))
           (g38_25 s x r338 r339 r340 r341 o1 o1_1 o1_2 o1_3 o2 o3 o4 o4_1 o4_2 o4_3 (o5 ++ [r337]) o6)
           none))
        (l_text_reader_number_fault 0 (IntKind.i64.wrap (o4_3 - 1)) 32 r333 r334 r335 r336
         (fun r337 r338 r339 r340 r341 =>
          twice
           (bi (decide ((o5.length + [r337].length) * 8 ≤ lim))
            (g38_25 s x r338 r339 r340 r341 o1 o1_1 o1_2 o1_3 o2 o3 o4 o4_1 o4_2 o4_3 (o5 ++ [r337]) o6)
            none))))
      (fun r342 r343 =>
       both
        (l_text_reader_number_none 0 (IntKind.i64.wrap (o4_3 - 1)) 32 r342 r343
         (fun r344 r345 r346 r347 r348 =>
          bi (decide ((o5.length + [r344].length) * 8 ≤ lim))
           (g38_25 s x r345 r346 r347 r348 o1 o1_1 o1_2 o1_3 o2 o3 o4 o4_1 o4_2 o4_3 (o5 ++ [r344]) o6)
           none)
         (fun r349 r350 r351 =>
          bi (decide ((o5.length + [r349].length) * 8 ≤ lim))
           (g38_25b s x r350 r351 o1 o1_1 o1_2 o1_3 o2 o3 o4 o4_1 o4_2 o4_3 (o5 ++ [r349]) o6)
           none))
        (l_text_reader_number_none 0 (IntKind.i64.wrap (o4_3 - 1)) 32 r342 r343
         (fun r344 r345 r346 r347 r348 =>
          twice
           (bi (decide ((o5.length + [r344].length) * 8 ≤ lim))
            (g38_25 s x r345 r346 r347 r348 o1 o1_1 o1_2 o1_3 o2 o3 o4 o4_1 o4_2 o4_3 (o5 ++ [r344]) o6)
            none))
         (fun r349 r350 r351 =>
          twice
           (bi (decide ((o5.length + [r349].length) * 8 ≤ lim))
            (g38_25b s x r350 r351 o1 o1_1 o1_2 o1_3 o2 o3 o4 o4_1 o4_2 o4_3 (o5 ++ [r349]) o6)
            none)))))
     (both
      (l_text_reader_number_none 0 (IntKind.i64.wrap (o4_3 - 1)) 32 o0 o0_1
       (fun r352 r353 r354 r355 r356 =>
        bi (decide ((o5.length + [r352].length) * 8 ≤ lim))
         (g38_25 s x r353 r354 r355 r356 o1 o1_1 o1_2 o1_3 o2 o3 o4 o4_1 o4_2 o4_3 (o5 ++ [r352]) o6)
         none)
       (fun r357 r358 r359 =>
        bi (decide ((o5.length + [r357].length) * 8 ≤ lim))
         (g38_25b s x r358 r359 o1 o1_1 o1_2 o1_3 o2 o3 o4 o4_1 o4_2 o4_3 (o5 ++ [r357]) o6)
         none))
      (l_text_reader_number_none 0 (IntKind.i64.wrap (o4_3 - 1)) 32 o0 o0_1
       (fun r352 r353 r354 r355 r356 =>
        twice
         (bi (decide ((o5.length + [r352].length) * 8 ≤ lim))
          (g38_25 s x r353 r354 r355 r356 o1 o1_1 o1_2 o1_3 o2 o3 o4 o4_1 o4_2 o4_3 (o5 ++ [r352]) o6)
          none))
       (fun r357 r358 r359 =>
        twice
         (bi (decide ((o5.length + [r357].length) * 8 ≤ lim))
          (g38_25b s x r358 r359 o1 o1_1 o1_2 o1_3 o2 o3 o4 o4_1 o4_2 o4_3 (o5 ++ [r357]) o6)
          none))))))
   (l_text_reader_want_none (ByteArray.mk #[10]) o0 o0_1
    (fun r360 r361 r362 r363 =>
     g38_15 (IntKind.i64.wrap (s + 1)) r360 r361 r362 r363 o1 o1_1 o1_2 o1_3 o2 o3 o4 o4_1 o4_2 o4_3 o5 o6)
    (fun r364 r365 =>
     g38_15b (IntKind.i64.wrap (s + 1)) r364 r365 o1 o1_1 o1_2 o1_3 o2 o3 o4 o4_1 o4_2 o4_3 o5 o6))

/-- (*tutor/text.reader).read -/
def s_text_reader_read_none_25a {R : Type} (g38_15 : Int → (List Int) → Int → Int → Int → Int → Int → Int → Int → (List Int) → (List Int) → Int → Int → Int → Int → (List Int) → (List Int) → Option R) (g38_15b : Int → (List Int) → Int → Int → Int → Int → Int → (List Int) → (List Int) → Int → Int → Int → Int → (List Int) → (List Int) → Option R) (g38_19 : Int → (List Int) → Int → Int → Int → Int → Int → Int → Int → (List Int) → (List Int) → Int → Int → Int → Int → (List Int) → (List Int) → Option R) (g38_19b : Int → (List Int) → Int → Int → Int → Int → Int → (List Int) → (List Int) → Int → Int → Int → Int → (List Int) → (List Int) → Option R) (g38_20 : Int → Int → (List Int) → Int → Int → Int → Int → Int → Int → Int → (List Int) → (List Int) → Int → Int → Int → Int → (List Int) → (List Int) → Option R) (g38_20b : Int → Int → (List Int) → Int → Int → Int → Int → Int → (List Int) → (List Int) → Int → Int → Int → Int → (List Int) → (List Int) → Option R) (g38_25 : Int → Int → (List Int) → Int → Int → Int → Int → Int → Int → Int → (List Int) → (List Int) → Int → Int → Int → Int → (List Int) → (List Int) → Option R) (g38_25b : Int → Int → (List Int) → Int → Int → Int → Int → Int → (List Int) → (List Int) → Int → Int → Int → Int → (List Int) → (List Int) → Option R) (g38_21 : Int → Int → (List Int) → Int → Int → Int → Int → Int → Int → Int → (List Int) → (List Int) → Int → Int → Int → Int → (List Int) → (List Int) → Option R) (g38_21b : Int → Int → (List Int) → Int → Int → Int → Int → Int → (List Int) → (List Int) → Int → Int → Int → Int → (List Int) → (List Int) → Option R) (K0 : Int → Int → Int → Int → (List Int) → Int → Int → Int → (List Int) → (List Int) → Option R) (K1 : Int → Int → Int → Int → (List Int) → Int → (List Int) → (List Int) → Option R) (s : Int) (x : Int) (o0 : List Int) (o0_1 : Int) (o1 : Int) (o1_1 : Int) (o2 : Int) (o2_1 : Int) (o2_2 : Int) (o2_3 : Int) (o3 : List Int) (o4 : List Int) (o5 : Int) (o5_1 : Int) (o5_2 : Int) (o5_3 : Int) (o6 : List Int) (o7 : List Int) : Option R :=
  bi (o5 == 2)
   (l_text_reader_want_fault (ByteArray.mk #[47]) o0 o0_1 o1 o1_1
    (fun r366 r367 r368 r369 =>
     both
      (l_text_reader_number_fault 0 (IntKind.i64.wrap (o5_2 - 1)) 33 r366 r367 r368 r369
       (fun r370 r371 r372 r373 r374 =>
        bi (decide ((o7.length + [r370].length) * 8 ≤ lim))
         (g38_21 s x r371 r372 r373 r374 o2 o2_1 o2_2 o2_3 o3 o4 o5 o5_1 o5_2 o5_3 o6 (o7 ++ [r370]))
         none))
      (l_text_reader_number_fault 0 (IntKind.i64.wrap (o5_2 - 1)) 33 r366 r367 r368 r369
       (fun r370 r371 r372 r373 r374 =>
        twice
         (bi (decide ((o7.length + [r370].length) * 8 ≤ lim))
          (g38_21 s x r371 r372 r373 r374 o2 o2_1 o2_2 o2_3 o3 o4 o5 o5_1 o5_2 o5_3 o6 (o7 ++ [r370]))
          none)))))
   (g38_21 s x o0 o0_1 o1 o1_1 o2 o2_1 o2_2 o2_3 o3 o4 o5 o5_1 o5_2 o5_3 o6 o7)

/-- (*tutor/text.reader).read -/
def s_text_reader_read_none_25b {R : Type} (g38_15 : Int → (List Int) → Int → Int → Int → Int → Int → Int → Int → (List Int) → (List Int) → Int → Int → Int → Int → (List Int) → (List Int) → Option R) (g38_15b : Int → (List Int) → Int → Int → Int → Int → Int → (List Int) → (List Int) → Int → Int → Int → Int → (List Int) → (List Int) → Option R) (g38_19 : Int → (List Int) → Int → Int → Int → Int → Int → Int → Int → (List Int) → (List Int) → Int → Int → Int → Int → (List Int) → (List Int) → Option R) (g38_19b : Int → (List Int) → Int → Int → Int → Int → Int → (List Int) → (List Int) → Int → Int → Int → Int → (List Int) → (List Int) → Option R) (g38_20 : Int → Int → (List Int) → Int → Int → Int → Int → Int → Int → Int → (List Int) → (List Int) → Int → Int → Int → Int → (List Int) → (List Int) → Option R) (g38_20b : Int → Int → (List Int) → Int → Int → Int → Int → Int → (List Int) → (List Int) → Int → Int → Int → Int → (List Int) → (List Int) → Option R) (g38_25 : Int → Int → (List Int) → Int → Int → Int → Int → Int → Int → Int → (List Int) → (List Int) → Int → Int → Int → Int → (List Int) → (List Int) → Option R) (g38_25b : Int → Int → (List Int) → Int → Int → Int → Int → Int → (List Int) → (List Int) → Int → Int → Int → Int → (List Int) → (List Int) → Option R) (g38_21 : Int → Int → (List Int) → Int → Int → Int → Int → Int → Int → Int → (List Int) → (List Int) → Int → Int → Int → Int → (List Int) → (List Int) → Option R) (g38_21b : Int → Int → (List Int) → Int → Int → Int → Int → Int → (List Int) → (List Int) → Int → Int → Int → Int → (List Int) → (List Int) → Option R) (K0 : Int → Int → Int → Int → (List Int) → Int → Int → Int → (List Int) → (List Int) → Option R) (K1 : Int → Int → Int → Int → (List Int) → Int → (List Int) → (List Int) → Option R) (s : Int) (x : Int) (o0 : List Int) (o0_1 : Int) (o1 : Int) (o1_1 : Int) (o1_2 : Int) (o1_3 : Int) (o2 : List Int) (o3 : List Int) (o4 : Int) (o4_1 : Int) (o4_2 : Int) (o4_3 : Int) (o5 : List Int) (o6 : List Int) : Option R :=
  bi (o4 == 2)
   (l_text_reader_want_none (ByteArray.mk #[47]) o0 o0_1
    (fun r375 r376 r377 r378 =>
     both
      (l_text_reader_number_fault 0 (IntKind.i64.wrap (o4_2 - 1)) 33 r375 r376 r377 r378
       (fun r379 r380 r381 r382 r383 =>
        bi (decide ((o6.length + [r379].length) * 8 ≤ lim))
         (g38_21 s x r380 r381 r382 r383 o1 o1_1 o1_2 o1_3 o2 o3 o4 o4_1 o4_2 o4_3 o5 (o6 ++ [r379]))
         none))
      (l_text_reader_number_fault 0 (IntKind.i64.wrap (o4_2 - 1)) 33 r375 r376 r377 r378
       (fun r379 r380 r381 r382 r383 =>
        twice
         (bi (decide ((o6.length + [r379].length) * 8 ≤ lim))
          (g38_21 s x r380 r381 r382 r383 o1 o1_1 o1_2 o1_3 o2 o3 o4 o4_1 o4_2 o4_3 o5 (o6 ++ [r379]))
          none))))
    (fun r384 r385 =>
     both
      (l_text_reader_number_none 0 (IntKind.i64.wrap (o4_2 - 1)) 33 r384 r385
       (fun r386 r387 r388 r389 r390 =>
        bi (decide ((o6.length + [r386].length) * 8 ≤ lim))
         (g38_21 s x r387 r388 r389 r390 o1 o1_1 o1_2 o1_3 o2 o3 o4 o4_1 o4_2 o4_3 o5 (o6 ++ [r386]))
         none)
       (fun r391 r392 r393 =>
        bi (decide ((o6.length + [r391].length) * 8 ≤ lim))
         (g38_21b s x r392 r393 o1 o1_1 o1_2 o1_3 o2 o3 o4 o4_1 o4_2 o4_3 o5 (o6 ++ [r391]))
         none))
      (l_text_reader_number_none 0 (IntKind.i64.wrap (o4_2 - 1)) 33 r384 r385
       (fun r386 r387 r388 r389 r390 =>
        twice
         (bi (decide ((o6.length + [r386].length) * 8 ≤ lim))
          (g38_21 s x r387 r388 r389 r390 o1 o1_1 o1_2 o1_3 o2 o3 o4 o4_1 o4_2 o4_3 o5 (o6 ++ [r386]))
          none))
       (fun r391 r392 r393 =>
        twice
         (bi (decide ((o6.length + [r391].length) * 8 ≤ lim))
          (g38_21b s x r392 r393 o1 o1_1 o1_2 o1_3 o2 o3 o4 o4_1 o4_2 o4_3 o5 (o6 ++ [r391]))
          none)))))
   (g38_21b s x o0 o0_1 o1 o1_1 o1_2 o1_3 o2 o3 o4 o4_1 o4_2 o4_3 o5 o6)

/-- (*tutor/text.reader).read -/
def s_text_reader_read_none_21a {R : Type} (g38_15 : Int → (List Int) → Int → Int → Int → Int → Int → Int → Int → (List Int) → (List Int) → Int → Int → Int → Int → (List Int) → (List Int) → Option R) (g38_15b : Int → (List Int) → Int → Int → Int → Int → Int → (List Int) → (List Int) → Int → Int → Int → Int → (List Int) → (List Int) → Option R) (g38_19 : Int → (List Int) → Int → Int → Int → Int → Int → Int → Int → (List Int) → (List Int) → Int → Int → Int → Int → (List Int) → (List Int) → Option R) (g38_19b : Int → (List Int) → Int → Int → Int → Int → Int → (List Int) → (List Int) → Int → Int → Int → Int → (List Int) → (List Int) → Option R) (g38_20 : Int → Int → (List Int) → Int → Int → Int → Int → Int → Int → Int → (List Int) → (List Int) → Int → Int → Int → Int → (List Int) → (List Int) → Option R) (g38_20b : Int → Int → (List Int) → Int → Int → Int → Int → Int → (List Int) → (List Int) → Int → Int → Int → Int → (List Int) → (List Int) → Option R) (g38_25 : Int → Int → (List Int) → Int → Int → Int → Int → Int → Int → Int → (List Int) → (List Int) → Int → Int → Int → Int → (List Int) → (List Int) → Option R) (g38_25b : Int → Int → (List Int) → Int → Int → Int → Int → Int → (List Int) → (List Int) → Int → Int → Int → Int → (List Int) → (List Int) → Option R) (g38_21 : Int → Int → (List Int) → Int → Int → Int → Int → Int → Int → Int → (List Int) → (List Int) → Int → Int → Int → Int → (List Int) → (List Int) → Option R) (g38_21b : Int → Int → (List Int) → Int → Int → Int → Int → Int → (List Int) → (List Int) → Int → Int → Int → Int → (List Int) → (List Int) → Option R) (K0 : Int → Int → Int → Int → (List Int) → Int → Int → Int → (List Int) → (List Int) → Option R) (K1 : Int → Int → Int → Int → (List Int) → Int → (List Int) → (List Int) → Option R) (s : Int) (x : Int) (o0 : List Int) (o0_1 : Int) (o1 : Int) (o1_1 : Int) (o2 : Int) (o2_1 : Int) (o2_2 : Int) (o2_3 : Int) (o3 : List Int) (o4 : List Int) (o5 : Int) (o5_1 : Int) (o5_2 : Int) (o5_3 : Int) (o6 : List Int) (o7 : List Int) : Option R :=
  g38_20 s (IntKind.i64.wrap (x + 1)) o0 o0_1 o1 o1_1 o2 o2_1 o2_2 o2_3 o3 o4 o5 o5_1 o5_2 o5_3 o6 o7

/-- (*tutor/text.reader).read -/
def s_text_reader_read_none_21b {R : Type} (g38_15 : Int → (List Int) → Int → Int → Int → Int → Int → Int → Int → (List Int) → (List Int) → Int → Int → Int → Int → (List Int) → (List Int) → Option R) (g38_15b : Int → (List Int) → Int → Int → Int → Int → Int → (List Int) → (List Int) → Int → Int → Int → Int → (List Int) → (List Int) → Option R) (g38_19 : Int → (List Int) → Int → Int → Int → Int → Int → Int → Int → (List Int) → (List Int) → Int → Int → Int → Int → (List Int) → (List Int) → Option R) (g38_19b : Int → (List Int) → Int → Int → Int → Int → Int → (List Int) → (List Int) → Int → Int → Int → Int → (List Int) → (List Int) → Option R) (g38_20 : Int → Int → (List Int) → Int → Int → Int → Int → Int → Int → Int → (List Int) → (List Int) → Int → Int → Int → Int → (List Int) → (List Int) → Option R) (g38_20b : Int → Int → (List Int) → Int → Int → Int → Int → Int → (List Int) → (List Int) → Int → Int → Int → Int → (List Int) → (List Int) → Option R) (g38_25 : Int → Int → (List Int) → Int → Int → Int → Int → Int → Int → Int → (List Int) → (List Int) → Int → Int → Int → Int → (List Int) → (List Int) → Option R) (g38_25b : Int → Int → (List Int) → Int → Int → Int → Int → Int → (List Int) → (List Int) → Int → Int → Int → Int → (List Int) → (List Int) → Option R) (g38_21 : Int → Int → (List Int) → Int → Int → Int → Int → Int → Int → Int → (List Int) → (List Int) → Int → Int → Int → Int → (List Int) → (List Int) → Option R) (g38_21b : Int → Int → (List Int) → Int → Int → Int → Int → Int → (List Int) → (List Int) → Int → Int → Int → Int → (List Int) → (List Int) → Option R) (K0 : Int → Int → Int → Int → (List Int) → Int → Int → Int → (List Int) → (List Int) → Option R) (K1 : Int → Int → Int → Int → (List Int) → Int → (List Int) → (List Int) → Option R) (s : Int) (x : Int) (o0 : List Int) (o0_1 : Int) (o1 : Int) (o1_1 : Int) (o1_2 : Int) (o1_3 : Int) (o2 : List Int) (o3 : List Int) (o4 : Int) (o4_1 : Int) (o4_2 : Int) (o4_3 : Int) (o5 : List Int) (o6 : List Int) : Option R :=
  g38_20b s (IntKind.i64.wrap (x + 1)) o0 o0_1 o1 o1_1 o1_2 o1_3 o2 o3 o4 o4_1 o4_2 o4_3 o5 o6

/-- (*tutor/text.reader).read -/
def e_text_reader_read_none {R : Type} (g38_15 : Int → (List Int) → Int → Int → Int → Int → Int → Int → Int → (List Int) → (List Int) → Int → Int → Int → Int → (List Int) → (List Int) → Option R) (g38_15b : Int → (List Int) → Int → Int → Int → Int → Int → (List Int) → (List Int) → Int → Int → Int → Int → (List Int) → (List Int) → Option R) (g38_19 : Int → (List Int) → Int → Int → Int → Int → Int → Int → Int → (List Int) → (List Int) → Int → Int → Int → Int → (List Int) → (List Int) → Option R) (g38_19b : Int → (List Int) → Int → Int → Int → Int → Int → (List Int) → (List Int) → Int → Int → Int → Int → (List Int) → (List Int) → Option R) (g38_20 : Int → Int → (List Int) → Int → Int → Int → Int → Int → Int → Int → (List Int) → (List Int) → Int → Int → Int → Int → (List Int) → (List Int) → Option R) (g38_20b : Int → Int → (List Int) → Int → Int → Int → Int → Int → (List Int) → (List Int) → Int → Int → Int → Int → (List Int) → (List Int) → Option R) (g38_25 : Int → Int → (List Int) → Int → Int → Int → Int → Int → Int → Int → (List Int) → (List Int) → Int → Int → Int → Int → (List Int) → (List Int) → Option R) (g38_25b : Int → Int → (List Int) → Int → Int → Int → Int → Int → (List Int) → (List Int) → Int → Int → Int → Int → (List Int) → (List Int) → Option R) (g38_21 : Int → Int → (List Int) → Int → Int → Int → Int → Int → Int → Int → (List Int) → (List Int) → Int → Int → Int → Int → (List Int) → (List Int) → Option R) (g38_21b : Int → Int → (List Int) → Int → Int → Int → Int → Int → (List Int) → (List Int) → Int → Int → Int → Int → (List Int) → (List Int) → Option R) (K0 : Int → Int → Int → Int → (List Int) → Int → Int → Int → (List Int) → (List Int) → Option R) (K1 : Int → Int → Int → Int → (List Int) → Int → (List Int) → (List Int) → Option R) (o0 : List Int) (o0_1 : Int) : Option R :=
  bi (decide ((o0.length : Int) > 0))
   (bi (decide (0 ≤ (0 : Int) ∧ (0 : Int) < ((o0.length : Nat) : Int)))
    (bi ((o0.getD 0 0) == 109)
     (l_text_reader_want_none (ByteArray.mk #[109, 101, 97, 108, 121, 32]) o0 o0_1
      (fun r1 r2 r3 r4 =>
       l_text_reader_number_fault 1 64 1 r1 r2 r3 r4
        (fun r5 r6 r7 r8 r9 =>
         l_text_reader_want_fault (ByteArray.mk #[32]) r6 r7 r8 r9
          (fun r10 r11 r12 r13 =>
           l_text_reader_number_fault 1 64 33 r10 r11 r12 r13
            (fun r14 r15 r16 r17 r18 =>
             l_text_reader_want_fault (ByteArray.mk #[32]) r15 r16 r17 r18
              (fun r19 r20 r21 r22 =>
               l_text_reader_number_fault 1 1024 3 r19 r20 r21 r22
                (fun r23 r24 r25 r26 r27 =>
                 l_text_reader_want_fault (ByteArray.mk #[10]) r24 r25 r26 r27
                  (fun r28 r29 r30 r31 =>
                   g38_15 0 r28 r29 r30 r31 0 0 0 0 ([] : List Int) ([] : List Int) 2 r5 r14 r23 ([] : List Int) ([] : List Int))))))))
      (fun r32 r33 =>
       l_text_reader_number_none 1 64 1 r32 r33
        (fun r34 r35 r36 r37 r38 =>
         l_text_reader_want_fault (ByteArray.mk #[32]) r35 r36 r37 r38
          (fun r39 r40 r41 r42 =>
           l_text_reader_number_fault 1 64 33 r39 r40 r41 r42
            (fun r43 r44 r45 r46 r47 =>
             l_text_reader_want_fault (ByteArray.mk #[32]) r44 r45 r46 r47
              (fun r48 r49 r50 r51 =>
               l_text_reader_number_fault 1 1024 3 r48 r49 r50 r51
                (fun r52 r53 r54 r55 r56 =>
                 l_text_reader_want_fault (ByteArray.mk #[10]) r53 r54 r55 r56
                  (fun r57 r58 r59 r60 =>
                   g38_15 0 r57 r58 r59 r60 0 0 0 0 ([] : List Int) ([] : List Int) 2 r34 r43 r52 ([] : List Int) ([] : List Int)))))))
        (fun r61 r62 r63 =>
         l_text_reader_want_none (ByteArray.mk #[32]) r62 r63
          (fun r64 r65 r66 r67 =>
           l_text_reader_number_fault 1 64 33 r64 r65 r66 r67
            (fun r68 r69 r70 r71 r72 =>
             l_text_reader_want_fault (ByteArray.mk #[32]) r69 r70 r71 r72
              (fun r73 r74 r75 r76 =>
               l_text_reader_number_fault 1 1024 3 r73 r74 r75 r76
                (fun r77 r78 r79 r80 r81 =>
                 l_text_reader_want_fault (ByteArray.mk #[10]) r78 r79 r80 r81
                  (fun r82 r83 r84 r85 =>
                   g38_15 0 r82 r83 r84 r85 0 0 0 0 ([] : List Int) ([] : List Int) 2 r61 r68 r77 ([] : List Int) ([] : List Int))))))
          (fun r86 r87 =>
           l_text_reader_number_none 1 64 33 r86 r87
            (fun r88 r89 r90 r91 r92 =>
             l_text_reader_want_fault (ByteArray.mk #[32]) r89 r90 r91 r92
              (fun r93 r94 r95 r96 =>
               l_text_reader_number_fault 1 1024 3 r93 r94 r95 r96
                (fun r97 r98 r99 r100 r101 =>
                 l_text_reader_want_fault (ByteArray.mk #[10]) r98 r99 r100 r101
                  (fun r102 r103 r104 r105 =>
                   g38_15 0 r102 r103 r104 r105 0 0 0 0 ([] : List Int) ([] : List Int) 2 r61 r88 r97 ([] : List Int) ([] : List Int)))))
            (fun r106 r107 r108 =>
             l_text_reader_want_none (ByteArray.mk #[32]) r107 r108
              (fun r109 r110 r111 r112 =>
               l_text_reader_number_fault 1 1024 3 r109 r110 r111 r112
                (fun r113 r114 r115 r116 r117 =>
                 l_text_reader_want_fault (ByteArray.mk #[10]) r114 r115 r116 r117
                  (fun r118 r119 r120 r121 =>
                   g38_15 0 r118 r119 r120 r121 0 0 0 0 ([] : List Int) ([] : List Int) 2 r61 r106 r113 ([] : List Int) ([] : List Int))))
              (fun r122 r123 =>
               l_text_reader_number_none 1 1024 3 r122 r123
                (fun r124 r125 r126 r127 r128 =>
                 l_text_reader_want_fault (ByteArray.mk #[10]) r125 r126 r127 r128
                  (fun r129 r130 r131 r132 =>
                   g38_15 0 r129 r130 r131 r132 0 0 0 0 ([] : List Int) ([] : List Int) 2 r61 r106 r124 ([] : List Int) ([] : List Int)))
                (fun r133 r134 r135 =>
                 l_text_reader_want_none (ByteArray.mk #[10]) r134 r135
                  (fun r136 r137 r138 r139 =>
                   g38_15 0 r136 r137 r138 r139 0 0 0 0 ([] : List Int) ([] : List Int) 2 r61 r106 r133 ([] : List Int) ([] : List Int))
                  (fun r140 r141 =>
                   g38_15b 0 r140 r141 0 0 0 0 ([] : List Int) ([] : List Int) 2 r61 r106 r133 ([] : List Int) ([] : List Int)))))))))
     (l_text_reader_want_none (ByteArray.mk #[100, 102, 97, 32]) o0 o0_1
      (fun r142 r143 r144 r145 =>
       l_text_reader_number_fault 1 64 1 r142 r143 r144 r145
        (fun r146 r147 r148 r149 r150 =>
         l_text_reader_want_fault (ByteArray.mk #[32]) r147 r148 r149 r150
          (fun r151 r152 r153 r154 =>
           l_text_reader_number_fault 1 1024 3 r151 r152 r153 r154
            (fun r155 r156 r157 r158 r159 =>
             l_text_reader_want_fault (ByteArray.mk #[10]) r156 r157 r158 r159
              (fun r160 r161 r162 r163 =>
               g38_15 0 r160 r161 r162 r163 0 0 0 0 ([] : List Int) ([] : List Int) 1 r146 2 r155 ([] : List Int) ([] : List Int))))))
      (fun r164 r165 =>
       l_text_reader_number_none 1 64 1 r164 r165
        (fun r166 r167 r168 r169 r170 =>
         l_text_reader_want_fault (ByteArray.mk #[32]) r167 r168 r169 r170
          (fun r171 r172 r173 r174 =>
           l_text_reader_number_fault 1 1024 3 r171 r172 r173 r174
            (fun r175 r176 r177 r178 r179 =>
             l_text_reader_want_fault (ByteArray.mk #[10]) r176 r177 r178 r179
              (fun r180 r181 r182 r183 =>
               g38_15 0 r180 r181 r182 r183 0 0 0 0 ([] : List Int) ([] : List Int) 1 r166 2 r175 ([] : List Int) ([] : List Int)))))
        (fun r184 r185 r186 =>
         l_text_reader_want_none (ByteArray.mk #[32]) r185 r186
          (fun r187 r188 r189 r190 =>
           l_text_reader_number_fault 1 1024 3 r187 r188 r189 r190
            (fun r191 r192 r193 r194 r195 =>
             l_text_reader_want_fault (ByteArray.mk #[10]) r192 r193 r194 r195
              (fun r196 r197 r198 r199 =>
               g38_15 0 r196 r197 r198 r199 0 0 0 0 ([] : List Int) ([] : List Int) 1 r184 2 r191 ([] : List Int) ([] : List Int))))
          (fun r200 r201 =>
           l_text_reader_number_none 1 1024 3 r200 r201
            (fun r202 r203 r204 r205 r206 =>
             l_text_reader_want_fault (ByteArray.mk #[10]) r203 r204 r205 r206
              (fun r207 r208 r209 r210 =>
               g38_15 0 r207 r208 r209 r210 0 0 0 0 ([] : List Int) ([] : List Int) 1 r184 2 r202 ([] : List Int) ([] : List Int)))
            (fun r211 r212 r213 =>
             l_text_reader_want_none (ByteArray.mk #[10]) r212 r213
              (fun r214 r215 r216 r217 =>
               g38_15 0 r214 r215 r216 r217 0 0 0 0 ([] : List Int) ([] : List Int) 1 r184 2 r211 ([] : List Int) ([] : List Int))
              (fun r218 r219 =>
               g38_15b 0 r218 r219 0 0 0 0 ([] : List Int) ([] : List Int) 1 r184 2 r211 ([] : List Int) ([] : List Int))))))))
    none)
   (l_text_reader_want_none (ByteArray.mk #[100, 102, 97, 32]) o0 o0_1
    (fun r220 r221 r222 r223 =>
     l_text_reader_number_fault 1 64 1 r220 r221 r222 r223
      (fun r224 r225 r226 r227 r228 =>
       l_text_reader_want_fault (ByteArray.mk #[32]) r225 r226 r227 r228
        (fun r229 r230 r231 r232 =>
         l_text_reader_number_fault 1 1024 3 r229 r230 r231 r232
          (fun r233 r234 r235 r236 r237 =>
           l_text_reader_want_fault (ByteArray.mk #[10]) r234 r235 r236 r237
            (fun r238 r239 r240 r241 =>
             g38_15 0 r238 r239 r240 r241 0 0 0 0 ([] : List Int) ([] : List Int) 1 r224 2 r233 ([] : List Int) ([] : List Int))))))
    (fun r242 r243 =>
     l_text_reader_number_none 1 64 1 r242 r243
      (fun r244 r245 r246 r247 r248 =>
       l_text_reader_want_fault (ByteArray.mk #[32]) r245 r246 r247 r248
        (fun r249 r250 r251 r252 =>
         l_text_reader_number_fault 1 1024 3 r249 r250 r251 r252
          (fun r253 r254 r255 r256 r257 =>
           l_text_reader_want_fault (ByteArray.mk #[10]) r254 r255 r256 r257
            (fun r258 r259 r260 r261 =>
             g38_15 0 r258 r259 r260 r261 0 0 0 0 ([] : List Int) ([] : List Int) 1 r244 2 r253 ([] : List Int) ([] : List Int)))))
      (fun r262 r263 r264 =>
       l_text_reader_want_none (ByteArray.mk #[32]) r263 r264
        (fun r265 r266 r267 r268 =>
         l_text_reader_number_fault 1 1024 3 r265 r266 r267 r268
          (fun r269 r270 r271 r272 r273 =>
           l_text_reader_want_fault (ByteArray.mk #[10]) r270 r271 r272 r273
            (fun r274 r275 r276 r277 =>
             g38_15 0 r274 r275 r276 r277 0 0 0 0 ([] : List Int) ([] : List Int) 1 r262 2 r269 ([] : List Int) ([] : List Int))))
        (fun r278 r279 =>
         l_text_reader_number_none 1 1024 3 r278 r279
          (fun r280 r281 r282 r283 r284 =>
           l_text_reader_want_fault (ByteArray.mk #[10]) r281 r282 r283 r284
            (fun r285 r286 r287 r288 =>
             g38_15 0 r285 r286 r287 r288 0 0 0 0 ([] : List Int) ([] : List Int) 1 r262 2 r280 ([] : List Int) ([] : List Int)))
          (fun r289 r290 r291 =>
           l_text_reader_want_none (ByteArray.mk #[10]) r290 r291
            (fun r292 r293 r294 r295 =>
             g38_15 0 r292 r293 r294 r295 0 0 0 0 ([] : List Int) ([] : List Int) 1 r262 2 r289 ([] : List Int) ([] : List Int))
            (fun r296 r297 =>
             g38_15b 0 r296 r297 0 0 0 0 ([] : List Int) ([] : List Int) 1 r262 2 r289 ([] : List Int) ([] : List Int)))))))

def run_text_reader_read_none {R : Type} (K0 : Int → Int → Int → Int → (List Int) → Int → Int → Int → (List Int) → (List Int) → Option R) (K1 : Int → Int → Int → Int → (List Int) → Int → (List Int) → (List Int) → Option R) : Nat → (Int → (List Int) → Int → Int → Int → Int → Int → Int → Int → (List Int) → (List Int) → Int → Int → Int → Int → (List Int) → (List Int) → Option R) × (Int → (List Int) → Int → Int → Int → Int → Int → (List Int) → (List Int) → Int → Int → Int → Int → (List Int) → (List Int) → Option R) × (Int → (List Int) → Int → Int → Int → Int → Int → Int → Int → (List Int) → (List Int) → Int → Int → Int → Int → (List Int) → (List Int) → Option R) × (Int → (List Int) → Int → Int → Int → Int → Int → (List Int) → (List Int) → Int → Int → Int → Int → (List Int) → (List Int) → Option R) × (Int → Int → (List Int) → Int → Int → Int → Int → Int → Int → Int → (List Int) → (List Int) → Int → Int → Int → Int → (List Int) → (List Int) → Option R) × (Int → Int → (List Int) → Int → Int → Int → Int → Int → (List Int) → (List Int) → Int → Int → Int → Int → (List Int) → (List Int) → Option R) × (Int → Int → (List Int) → Int → Int → Int → Int → Int → Int → Int → (List Int) → (List Int) → Int → Int → Int → Int → (List Int) → (List Int) → Option R) × (Int → Int → (List Int) → Int → Int → Int → Int → Int → (List Int) → (List Int) → Int → Int → Int → Int → (List Int) → (List Int) → Option R) × (Int → Int → (List Int) → Int → Int → Int → Int → Int → Int → Int → (List Int) → (List Int) → Int → Int → Int → Int → (List Int) → (List Int) → Option R) × (Int → Int → (List Int) → Int → Int → Int → Int → Int → (List Int) → (List Int) → Int → Int → Int → Int → (List Int) → (List Int) → Option R)
  | 0 => (fun _ _ _ _ _ _ _ _ _ _ _ _ _ _ _ _ _ => none, fun _ _ _ _ _ _ _ _ _ _ _ _ _ _ _ => none, fun _ _ _ _ _ _ _ _ _ _ _ _ _ _ _ _ _ => none, fun _ _ _ _ _ _ _ _ _ _ _ _ _ _ _ => none, fun _ _ _ _ _ _ _ _ _ _ _ _ _ _ _ _ _ _ => none, fun _ _ _ _ _ _ _ _ _ _ _ _ _ _ _ _ => none, fun _ _ _ _ _ _ _ _ _ _ _ _ _ _ _ _ _ _ => none, fun _ _ _ _ _ _ _ _ _ _ _ _ _ _ _ _ => none, fun _ _ _ _ _ _ _ _ _ _ _ _ _ _ _ _ _ _ => none, fun _ _ _ _ _ _ _ _ _ _ _ _ _ _ _ _ => none)
  | n + 1 => (s_text_reader_read_none_15a (run_text_reader_read_none K0 K1 n).1 (run_text_reader_read_none K0 K1 n).2.1 (run_text_reader_read_none K0 K1 n).2.2.1 (run_text_reader_read_none K0 K1 n).2.2.2.1 (run_text_reader_read_none K0 K1 n).2.2.2.2.1 (run_text_reader_read_none K0 K1 n).2.2.2.2.2.1 (run_text_reader_read_none K0 K1 n).2.2.2.2.2.2.1 (run_text_reader_read_none K0 K1 n).2.2.2.2.2.2.2.1 (run_text_reader_read_none K0 K1 n).2.2.2.2.2.2.2.2.1 (run_text_reader_read_none K0 K1 n).2.2.2.2.2.2.2.2.2 K0 K1, s_text_reader_read_none_15b (run_text_reader_read_none K0 K1 n).1 (run_text_reader_read_none K0 K1 n).2.1 (run_text_reader_read_none K0 K1 n).2.2.1 (run_text_reader_read_none K0 K1 n).2.2.2.1 (run_text_reader_read_none K0 K1 n).2.2.2.2.1 (run_text_reader_read_none K0 K1 n).2.2.2.2.2.1 (run_text_reader_read_none K0 K1 n).2.2.2.2.2.2.1 (run_text_reader_read_none K0 K1 n).2.2.2.2.2.2.2.1 (run_text_reader_read_none K0 K1 n).2.2.2.2.2.2.2.2.1 (run_text_reader_read_none K0 K1 n).2.2.2.2.2.2.2.2.2 K0 K1, s_text_reader_read_none_19a (run_text_reader_read_none K0 K1 n).1 (run_text_reader_read_none K0 K1 n).2.1 (run_text_reader_read_none K0 K1 n).2.2.1 (run_text_reader_read_none K0 K1 n).2.2.2.1 (run_text_reader_read_none K0 K1 n).2.2.2.2.1 (run_text_reader_read_none K0 K1 n).2.2.2.2.2.1 (run_text_reader_read_none K0 K1 n).2.2.2.2.2.2.1 (run_text_reader_read_none K0 K1 n).2.2.2.2.2.2.2.1 (run_text_reader_read_none K0 K1 n).2.2.2.2.2.2.2.2.1 (run_text_reader_read_none K0 K1 n).2.2.2.2.2.2.2.2.2 K0 K1, s_text_reader_read_none_19b (run_text_reader_read_none K0 K1 n).1 (run_text_reader_read_none K0 K1 n).2.1 (run_text_reader_read_none K0 K1 n).2.2.1 (run_text_reader_read_none K0 K1 n).2.2.2.1 (run_text_reader_read_none K0 K1 n).2.2.2.2.1 (run_text_reader_read_none K0 K1 n).2.2.2.2.2.1 (run_text_reader_read_none K0 K1 n).2.2.2.2.2.2.1 (run_text_reader_read_none K0 K1 n).2.2.2.2.2.2.2.1 (run_text_reader_read_none K0 K1 n).2.2.2.2.2.2.2.2.1 (run_text_reader_read_none K0 K1 n).2.2.2.2.2.2.2.2.2 K0 K1, s_text_reader_read_none_20a (run_text_reader_read_none K0 K1 n).1 (run_text_reader_read_none K0 K1 n).2.1 (run_text_reader_read_none K0 K1 n).2.2.1 (run_text_reader_read_none K0 K1 n).2.2.2.1 (run_text_reader_read_none K0 K1 n).2.2.2.2.1 (run_text_reader_read_none K0 K1 n).2.2.2.2.2.1 (run_text_reader_read_none K0 K1 n).2.2.2.2.2.2.1 (run_text_reader_read_none K0 K1 n).2.2.2.2.2.2.2.1 (run_text_reader_read_none K0 K1 n).2.2.2.2.2.2.2.2.1 (run_text_reader_read_none K0 K1 n).2.2.2.2.2.2.2.2.2 K0 K1, s_text_reader_read_none_20b (run_text_reader_read_none K0 K1 n).1 (run_text_reader_read_none K0 K1 n).2.1 (run_text_reader_read_none K0 K1 n).2.2.1 (run_text_reader_read_none K0 K1 n).2.2.2.1 (run_text_reader_read_none K0 K1 n).2.2.2.2.1 (run_text_reader_read_none K0 K1 n).2.2.2.2.2.1 (run_text_reader_read_none K0 K1 n).2.2.2.2.2.2.1 (run_text_reader_read_none K0 K1 n).2.2.2.2.2.2.2.1 (run_text_reader_read_none K0 K1 n).2.2.2.2.2.2.2.2.1 (run_text_reader_read_none K0 K1 n).2.2.2.2.2.2.2.2.2 K0 K1, s_text_reader_read_none_25a (run_text_reader_read_none K0 K1 n).1 (run_text_reader_read_none K0 K1 n).2.1 (run_text_reader_read_none K0 K1 n).2.2.1 (run_text_reader_read_none K0 K1 n).2.2.2.1 (run_text_reader_read_none K0 K1 n).2.2.2.2.1 (run_text_reader_read_none K0 K1 n).2.2.2.2.2.1 (run_text_reader_read_none K0 K1 n).2.2.2.2.2.2.1 (run_text_reader_read_none K0 K1 n).2.2.2.2.2.2.2.1 (run_text_reader_read_none K0 K1 n).2.2.2.2.2.2.2.2.1 (run_text_reader_read_none K0 K1 n).2.2.2.2.2.2.2.2.2 K0 K1, s_text_reader_read_none_25b (run_text_reader_read_none K0 K1 n).1 (run_text_reader_read_none K0 K1 n).2.1 (run_text_reader_read_none K0 K1 n).2.2.1 (run_text_reader_read_none K0 K1 n).2.2.2.1 (run_text_reader_read_none K0 K1 n).2.2.2.2.1 (run_text_reader_read_none K0 K1 n).2.2.2.2.2.1 (run_text_reader_read_none K0 K1 n).2.2.2.2.2.2.1 (run_text_reader_read_none K0 K1 n).2.2.2.2.2.2.2.1 (run_text_reader_read_none K0 K1 n).2.2.2.2.2.2.2.2.1 (run_text_reader_read_none K0 K1 n).2.2.2.2.2.2.2.2.2 K0 K1, s_text_reader_read_none_21a (run_text_reader_read_none K0 K1 n).1 (run_text_reader_read_none K0 K1 n).2.1 (run_text_reader_read_none K0 K1 n).2.2.1 (run_text_reader_read_none K0 K1 n).2.2.2.1 (run_text_reader_read_none K0 K1 n).2.2.2.2.1 (run_text_reader_read_none K0 K1 n).2.2.2.2.2.1 (run_text_reader_read_none K0 K1 n).2.2.2.2.2.2.1 (run_text_reader_read_none K0 K1 n).2.2.2.2.2.2.2.1 (run_text_reader_read_none K0 K1 n).2.2.2.2.2.2.2.2.1 (run_text_reader_read_none K0 K1 n).2.2.2.2.2.2.2.2.2 K0 K1, s_text_reader_read_none_21b (run_text_reader_read_none K0 K1 n).1 (run_text_reader_read_none K0 K1 n).2.1 (run_text_reader_read_none K0 K1 n).2.2.1 (run_text_reader_read_none K0 K1 n).2.2.2.1 (run_text_reader_read_none K0 K1 n).2.2.2.2.1 (run_text_reader_read_none K0 K1 n).2.2.2.2.2.1 (run_text_reader_read_none K0 K1 n).2.2.2.2.2.2.1 (run_text_reader_read_none K0 K1 n).2.2.2.2.2.2.2.1 (run_text_reader_read_none K0 K1 n).2.2.2.2.2.2.2.2.1 (run_text_reader_read_none K0 K1 n).2.2.2.2.2.2.2.2.2 K0 K1)

def l_text_reader_read_none {R : Type} (o0 : List Int) (o0_1 : Int) (K0 : Int → Int → Int → Int → (List Int) → Int → Int → Int → (List Int) → (List Int) → Option R) (K1 : Int → Int → Int → Int → (List Int) → Int → (List Int) → (List Int) → Option R) : Option R := evl fun fuel => e_text_reader_read_none (run_text_reader_read_none K0 K1 fuel).1 (run_text_reader_read_none K0 K1 fuel).2.1 (run_text_reader_read_none K0 K1 fuel).2.2.1 (run_text_reader_read_none K0 K1 fuel).2.2.2.1 (run_text_reader_read_none K0 K1 fuel).2.2.2.2.1 (run_text_reader_read_none K0 K1 fuel).2.2.2.2.2.1 (run_text_reader_read_none K0 K1 fuel).2.2.2.2.2.2.1 (run_text_reader_read_none K0 K1 fuel).2.2.2.2.2.2.2.1 (run_text_reader_read_none K0 K1 fuel).2.2.2.2.2.2.2.2.1 (run_text_reader_read_none K0 K1 fuel).2.2.2.2.2.2.2.2.2 K0 K1 o0 o0_1

theorem ok_text_reader_read_none {R : Type} (o0 : List Int) (o0_1 : Int) (K0 : Int → Int → Int → Int → (List Int) → Int → Int → Int → (List Int) → (List Int) → Option R) (K1 : Int → Int → Int → Int → (List Int) → Int → (List Int) → (List Int) → Option R) {r : R} (h : l_text_reader_read_none o0 o0_1 K0 K1 = some r) : ∃ fuel, e_text_reader_read_none (run_text_reader_read_none K0 K1 fuel).1 (run_text_reader_read_none K0 K1 fuel).2.1 (run_text_reader_read_none K0 K1 fuel).2.2.1 (run_text_reader_read_none K0 K1 fuel).2.2.2.1 (run_text_reader_read_none K0 K1 fuel).2.2.2.2.1 (run_text_reader_read_none K0 K1 fuel).2.2.2.2.2.1 (run_text_reader_read_none K0 K1 fuel).2.2.2.2.2.2.1 (run_text_reader_read_none K0 K1 fuel).2.2.2.2.2.2.2.1 (run_text_reader_read_none K0 K1 fuel).2.2.2.2.2.2.2.2.1 (run_text_reader_read_none K0 K1 fuel).2.2.2.2.2.2.2.2.2 K0 K1 o0 o0_1 = some r := evl_ok h

theorem st_text_reader_read_none_15a {R : Type} (K0 : Int → Int → Int → Int → (List Int) → Int → Int → Int → (List Int) → (List Int) → Option R) (K1 : Int → Int → Int → Int → (List Int) → Int → (List Int) → (List Int) → Option R) (fuel : Nat) (s : Int) (o0 : List Int) (o0_1 : Int) (o1 : Int) (o1_1 : Int) (o2 : Int) (o2_1 : Int) (o2_2 : Int) (o2_3 : Int) (o3 : List Int) (o4 : List Int) (o5 : Int) (o5_1 : Int) (o5_2 : Int) (o5_3 : Int) (o6 : List Int) (o7 : List Int) : (run_text_reader_read_none K0 K1 (fuel + 1)).1 s o0 o0_1 o1 o1_1 o2 o2_1 o2_2 o2_3 o3 o4 o5 o5_1 o5_2 o5_3 o6 o7 = s_text_reader_read_none_15a (run_text_reader_read_none K0 K1 fuel).1 (run_text_reader_read_none K0 K1 fuel).2.1 (run_text_reader_read_none K0 K1 fuel).2.2.1 (run_text_reader_read_none K0 K1 fuel).2.2.2.1 (run_text_reader_read_none K0 K1 fuel).2.2.2.2.1 (run_text_reader_read_none K0 K1 fuel).2.2.2.2.2.1 (run_text_reader_read_none K0 K1 fuel).2.2.2.2.2.2.1 (run_text_reader_read_none K0 K1 fuel).2.2.2.2.2.2.2.1 (run_text_reader_read_none K0 K1 fuel).2.2.2.2.2.2.2.2.1 (run_text_reader_read_none K0 K1 fuel).2.2.2.2.2.2.2.2.2 K0 K1 s o0 o0_1 o1 o1_1 o2 o2_1 o2_2 o2_3 o3 o4 o5 o5_1 o5_2 o5_3 o6 o7 := rfl

theorem st_text_reader_read_none_15b {R : Type} (K0 : Int → Int → Int → Int → (List Int) → Int → Int → Int → (List Int) → (List Int) → Option R) (K1 : Int → Int → Int → Int → (List Int) → Int → (List Int) → (List Int) → Option R) (fuel : Nat) (s : Int) (o0 : List Int) (o0_1 : Int) (o1 : Int) (o1_1 : Int) (o1_2 : Int) (o1_3 : Int) (o2 : List Int) (o3 : List Int) (o4 : Int) (o4_1 : Int) (o4_2 : Int) (o4_3 : Int) (o5 : List Int) (o6 : List Int) : (run_text_reader_read_none K0 K1 (fuel + 1)).2.1 s o0 o0_1 o1 o1_1 o1_2 o1_3 o2 o3 o4 o4_1 o4_2 o4_3 o5 o6 = s_text_reader_read_none_15b (run_text_reader_read_none K0 K1 fuel).1 (run_text_reader_read_none K0 K1 fuel).2.1 (run_text_reader_read_none K0 K1 fuel).2.2.1 (run_text_reader_read_none K0 K1 fuel).2.2.2.1 (run_text_reader_read_none K0 K1 fuel).2.2.2.2.1 (run_text_reader_read_none K0 K1 fuel).2.2.2.2.2.1 (run_text_reader_read_none K0 K1 fuel).2.2.2.2.2.2.1 (run_text_reader_read_none K0 K1 fuel).2.2.2.2.2.2.2.1 (run_text_reader_read_none K0 K1 fuel).2.2.2.2.2.2.2.2.1 (run_text_reader_read_none K0 K1 fuel).2.2.2.2.2.2.2.2.2 K0 K1 s o0 o0_1 o1 o1_1 o1_2 o1_3 o2 o3 o4 o4_1 o4_2 o4_3 o5 o6 := rfl

theorem st_text_reader_read_none_19a {R : Type} (K0 : Int → Int → Int → Int → (List Int) → Int → Int → Int → (List Int) → (List Int) → Option R) (K1 : Int → Int → Int → Int → (List Int) → Int → (List Int) → (List Int) → Option R) (fuel : Nat) (s : Int) (o0 : List Int) (o0_1 : Int) (o1 : Int) (o1_1 : Int) (o2 : Int) (o2_1 : Int) (o2_2 : Int) (o2_3 : Int) (o3 : List Int) (o4 : List Int) (o5 : Int) (o5_1 : Int) (o5_2 : Int) (o5_3 : Int) (o6 : List Int) (o7 : List Int) : (run_text_reader_read_none K0 K1 (fuel + 1)).2.2.1 s o0 o0_1 o1 o1_1 o2 o2_1 o2_2 o2_3 o3 o4 o5 o5_1 o5_2 o5_3 o6 o7 = s_text_reader_read_none_19a (run_text_reader_read_none K0 K1 fuel).1 (run_text_reader_read_none K0 K1 fuel).2.1 (run_text_reader_read_none K0 K1 fuel).2.2.1 (run_text_reader_read_none K0 K1 fuel).2.2.2.1 (run_text_reader_read_none K0 K1 fuel).2.2.2.2.1 (run_text_reader_read_none K0 K1 fuel).2.2.2.2.2.1 (run_text_reader_read_none K0 K1 fuel).2.2.2.2.2.2.1 (run_text_reader_read_none K0 K1 fuel).2.2.2.2.2.2.2.1 (run_text_reader_read_none K0 K1 fuel).2.2.2.2.2.2.2.2.1 (run_text_reader_read_none K0 K1 fuel).2.2.2.2.2.2.2.2.2 K0 K1 s o0 o0_1 o1 o1_1 o2 o2_1 o2_2 o2_3 o3 o4 o5 o5_1 o5_2 o5_3 o6 o7 := rfl

theorem st_text_reader_read_none_19b {R : Type} (K0 : Int → Int → Int → Int → (List Int) → Int → Int → Int → (List Int) → (List Int) → Option R) (K1 : Int → Int → Int → Int → (List Int) → Int → (List Int) → (List Int) → Option R) (fuel : Nat) (s : Int) (o0 : List Int) (o0_1 : Int) (o1 : Int) (o1_1 : Int) (o1_2 : Int) (o1_3 : Int) (o2 : List Int) (o3 : List Int) (o4 : Int) (o4_1 : Int) (o4_2 : Int) (o4_3 : Int) (o5 : List Int) (o6 : List Int) : (run_text_reader_read_none K0 K1 (fuel + 1)).2.2.2.1 s o0 o0_1 o1 o1_1 o1_2 o1_3 o2 o3 o4 o4_1 o4_2 o4_3 o5 o6 = s_text_reader_read_none_19b (run_text_reader_read_none K0 K1 fuel).1 (run_text_reader_read_none K0 K1 fuel).2.1 (run_text_reader_read_none K0 K1 fuel).2.2.1 (run_text_reader_read_none K0 K1 fuel).2.2.2.1 (run_text_reader_read_none K0 K1 fuel).2.2.2.2.1 (run_text_reader_read_none K0 K1 fuel).2.2.2.2.2.1 (run_text_reader_read_none K0 K1 fuel).2.2.2.2.2.2.1 (run_text_reader_read_none K0 K1 fuel).2.2.2.2.2.2.2.1 (run_text_reader_read_none K0 K1 fuel).2.2.2.2.2.2.2.2.1 (run_text_reader_read_none K0 K1 fuel).2.2.2.2.2.2.2.2.2 K0 K1 s o0 o0_1 o1 o1_1 o1_2 o1_3 o2 o3 o4 o4_1 o4_2 o4_3 o5 o6 := rfl

theorem st_text_reader_read_none_20a {R : Type} (K0 : Int → Int → Int → Int → (List Int) → Int → Int → Int → (List Int) → (List Int) → Option R) (K1 : Int → Int → Int → Int → (List Int) → Int → (List Int) → (List Int) → Option R) (fuel : Nat) (s : Int) (x : Int) (o0 : List Int) (o0_1 : Int) (o1 : Int) (o1_1 : Int) (o2 : Int) (o2_1 : Int) (o2_2 : Int) (o2_3 : Int) (o3 : List Int) (o4 : List Int) (o5 : Int) (o5_1 : Int) (o5_2 : Int) (o5_3 : Int) (o6 : List Int) (o7 : List Int) : (run_text_reader_read_none K0 K1 (fuel + 1)).2.2.2.2.1 s x o0 o0_1 o1 o1_1 o2 o2_1 o2_2 o2_3 o3 o4 o5 o5_1 o5_2 o5_3 o6 o7 = s_text_reader_read_none_20a (run_text_reader_read_none K0 K1 fuel).1 (run_text_reader_read_none K0 K1 fuel).2.1 (run_text_reader_read_none K0 K1 fuel).2.2.1 (run_text_reader_read_none K0 K1 fuel).2.2.2.1 (run_text_reader_read_none K0 K1 fuel).2.2.2.2.1 (run_text_reader_read_none K0 K1 fuel).2.2.2.2.2.1 (run_text_reader_read_none K0 K1 fuel).2.2.2.2.2.2.1 (run_text_reader_read_none K0 K1 fuel).2.2.2.2.2.2.2.1 (run_text_reader_read_none K0 K1 fuel).2.2.2.2.2.2.2.2.1 (run_text_reader_read_none K0 K1 fuel).2.2.2.2.2.2.2.2.2 K0 K1 s x o0 o0_1 o1 o1_1 o2 o2_1 o2_2 o2_3 o3 o4 o5 o5_1 o5_2 o5_3 o6 o7 := rfl

theorem st_text_reader_read_none_20b {R : Type} (K0 : Int → Int → Int → Int → (List Int) → Int → Int → Int → (List Int) → (List Int) → Option R) (K1 : Int → Int → Int → Int → (List Int) → Int → (List Int) → (List Int) → Option R) (fuel : Nat) (s : Int) (x : Int) (o0 : List Int) (o0_1 : Int) (o1 : Int) (o1_1 : Int) (o1_2 : Int) (o1_3 : Int) (o2 : List Int) (o3 : List Int) (o4 : Int) (o4_1 : Int) (o4_2 : Int) (o4_3 : Int) (o5 : List Int) (o6 : List Int) : (run_text_reader_read_none K0 K1 (fuel + 1)).2.2.2.2.2.1 s x o0 o0_1 o1 o1_1 o1_2 o1_3 o2 o3 o4 o4_1 o4_2 o4_3 o5 o6 = s_text_reader_read_none_20b (run_text_reader_read_none K0 K1 fuel).1 (run_text_reader_read_none K0 K1 fuel).2.1 (run_text_reader_read_none K0 K1 fuel).2.2.1 (run_text_reader_read_none K0 K1 fuel).2.2.2.1 (run_text_reader_read_none K0 K1 fuel).2.2.2.2.1 (run_text_reader_read_none K0 K1 fuel).2.2.2.2.2.1 (run_text_reader_read_none K0 K1 fuel).2.2.2.2.2.2.1 (run_text_reader_read_none K0 K1 fuel).2.2.2.2.2.2.2.1 (run_text_reader_read_none K0 K1 fuel).2.2.2.2.2.2.2.2.1 (run_text_reader_read_none K0 K1 fuel).2.2.2.2.2.2.2.2.2 K0 K1 s x o0 o0_1 o1 o1_1 o1_2 o1_3 o2 o3 o4 o4_1 o4_2 o4_3 o5 o6 := rfl

theorem st_text_reader_read_none_25a {R : Type} (K0 : Int → Int → Int → Int → (List Int) → Int → Int → Int → (List Int) → (List Int) → Option R) (K1 : Int → Int → Int → Int → (List Int) → Int → (List Int) → (List Int) → Option R) (fuel : Nat) (s : Int) (x : Int) (o0 : List Int) (o0_1 : Int) (o1 : Int) (o1_1 : Int) (o2 : Int) (o2_1 : Int) (o2_2 : Int) (o2_3 : Int) (o3 : List Int) (o4 : List Int) (o5 : Int) (o5_1 : Int) (o5_2 : Int) (o5_3 : Int) (o6 : List Int) (o7 : List Int) : (run_text_reader_read_none K0 K1 (fuel + 1)).2.2.2.2.2.2.1 s x o0 o0_1 o1 o1_1 o2 o2_1 o2_2 o2_3 o3 o4 o5 o5_1 o5_2 o5_3 o6 o7 = s_text_reader_read_none_25a (run_text_reader_read_none K0 K1 fuel).1 (run_text_reader_read_none K0 K1 fuel).2.1 (run_text_reader_read_none K0 K1 fuel).2.2.1 (run_text_reader_read_none K0 K1 fuel).2.2.2.1 (run_text_reader_read_none K0 K1 fuel).2.2.2.2.1 (run_text_reader_read_none K0 K1 fuel).2.2.2.2.2.1 (run_text_reader_read_none K0 K1 fuel).2.2.2.2.2.2.1 (run_text_reader_read_none K0 K1 fuel).2.2.2.2.2.2.2.1 (run_text_reader_read_none K0 K1 fuel).2.2.2.2.2.2.2.2.1 (run_text_reader_read_none K0 K1 fuel).2.2.2.2.2.2.2.2.2 K0 K1 s x o0 o0_1 o1 o1_1 o2 o2_1 o2_2 o2_3 o3 o4 o5 o5_1 o5_2 o5_3 o6 o7 := rfl

theorem st_text_reader_read_none_25b {R : Type} (K0 : Int → Int → Int → Int → (List Int) → Int → Int → Int → (List Int) → (List Int) → Option R) (K1 : Int → Int → Int → Int → (List Int) → Int → (List Int) → (List Int) → Option R) (fuel : Nat) (s : Int) (x : Int) (o0 : List Int) (o0_1 : Int) (o1 : Int) (o1_1 : Int) (o1_2 : Int) (o1_3 : Int) (o2 : List Int) (o3 : List Int) (o4 : Int) (o4_1 : Int) (o4_2 : Int) (o4_3 : Int) (o5 : List Int) (o6 : List Int) : (run_text_reader_read_none K0 K1 (fuel + 1)).2.2.2.2.2.2.2.1 s x o0 o0_1 o1 o1_1 o1_2 o1_3 o2 o3 o4 o4_1 o4_2 o4_3 o5 o6 = s_text_reader_read_none_25b (run_text_reader_read_none K0 K1 fuel).1 (run_text_reader_read_none K0 K1 fuel).2.1 (run_text_reader_read_none K0 K1 fuel).2.2.1 (run_text_reader_read_none K0 K1 fuel).2.2.2.1 (run_text_reader_read_none K0 K1 fuel).2.2.2.2.1 (run_text_reader_read_none K0 K1 fuel).2.2.2.2.2.1 (run_text_reader_read_none K0 K1 fuel).2.2.2.2.2.2.1 (run_text_reader_read_none K0 K1 fuel).2.2.2.2.2.2.2.1 (run_text_reader_read_none K0 K1 fuel).2.2.2.2.2.2.2.2.1 (run_text_reader_read_none K0 K1 fuel).2.2.2.2.2.2.2.2.2 K0 K1 s x o0 o0_1 o1 o1_1 o1_2 o1_3 o2 o3 o4 o4_1 o4_2 o4_3 o5 o6 := rfl

theorem st_text_reader_read_none_21a {R : Type} (K0 : Int → Int → Int → Int → (List Int) → Int → Int → Int → (List Int) → (List Int) → Option R) (K1 : Int → Int → Int → Int → (List Int) → Int → (List Int) → (List Int) → Option R) (fuel : Nat) (s : Int) (x : Int) (o0 : List Int) (o0_1 : Int) (o1 : Int) (o1_1 : Int) (o2 : Int) (o2_1 : Int) (o2_2 : Int) (o2_3 : Int) (o3 : List Int) (o4 : List Int) (o5 : Int) (o5_1 : Int) (o5_2 : Int) (o5_3 : Int) (o6 : List Int) (o7 : List Int) : (run_text_reader_read_none K0 K1 (fuel + 1)).2.2.2.2.2.2.2.2.1 s x o0 o0_1 o1 o1_1 o2 o2_1 o2_2 o2_3 o3 o4 o5 o5_1 o5_2 o5_3 o6 o7 = s_text_reader_read_none_21a (run_text_reader_read_none K0 K1 fuel).1 (run_text_reader_read_none K0 K1 fuel).2.1 (run_text_reader_read_none K0 K1 fuel).2.2.1 (run_text_reader_read_none K0 K1 fuel).2.2.2.1 (run_text_reader_read_none K0 K1 fuel).2.2.2.2.1 (run_text_reader_read_none K0 K1 fuel).2.2.2.2.2.1 (run_text_reader_read_none K0 K1 fuel).2.2.2.2.2.2.1 (run_text_reader_read_none K0 K1 fuel).2.2.2.2.2.2.2.1 (run_text_reader_read_none K0 K1 fuel).2.2.2.2.2.2.2.2.1 (run_text_reader_read_none K0 K1 fuel).2.2.2.2.2.2.2.2.2 K0 K1 s x o0 o0_1 o1 o1_1 o2 o2_1 o2_2 o2_3 o3 o4 o5 o5_1 o5_2 o5_3 o6 o7 := rfl

theorem st_text_reader_read_none_21b {R : Type} (K0 : Int → Int → Int → Int → (List Int) → Int → Int → Int → (List Int) → (List Int) → Option R) (K1 : Int → Int → Int → Int → (List Int) → Int → (List Int) → (List Int) → Option R) (fuel : Nat) (s : Int) (x : Int) (o0 : List Int) (o0_1 : Int) (o1 : Int) (o1_1 : Int) (o1_2 : Int) (o1_3 : Int) (o2 : List Int) (o3 : List Int) (o4 : Int) (o4_1 : Int) (o4_2 : Int) (o4_3 : Int) (o5 : List Int) (o6 : List Int) : (run_text_reader_read_none K0 K1 (fuel + 1)).2.2.2.2.2.2.2.2.2 s x o0 o0_1 o1 o1_1 o1_2 o1_3 o2 o3 o4 o4_1 o4_2 o4_3 o5 o6 = s_text_reader_read_none_21b (run_text_reader_read_none K0 K1 fuel).1 (run_text_reader_read_none K0 K1 fuel).2.1 (run_text_reader_read_none K0 K1 fuel).2.2.1 (run_text_reader_read_none K0 K1 fuel).2.2.2.1 (run_text_reader_read_none K0 K1 fuel).2.2.2.2.1 (run_text_reader_read_none K0 K1 fuel).2.2.2.2.2.1 (run_text_reader_read_none K0 K1 fuel).2.2.2.2.2.2.1 (run_text_reader_read_none K0 K1 fuel).2.2.2.2.2.2.2.1 (run_text_reader_read_none K0 K1 fuel).2.2.2.2.2.2.2.2.1 (run_text_reader_read_none K0 K1 fuel).2.2.2.2.2.2.2.2.2 K0 K1 s x o0 o0_1 o1 o1_1 o1_2 o1_3 o2 o3 o4 o4_1 o4_2 o4_3 o5 o6 := rfl

section reading
variable {R : Type} {G : Int → Int → Option R} {K1 : Int → Int → Int → Int → List Int → Int → List Int → List Int → Option R}

abbrev RF {R : Type} (G : Int → Int → Option R) (K1 : Int → Int → Int → Int → List Int → Int → List Int → List Int → Option R) (m : Nat) := run_text_reader_read_none (fun _ _ _ _ _ _ k p _ _ => G k p) K1 m

theorem f15 {s : Int} {o0 : List Int} {a k p z1 z2 z3 z4 : Int} {zn zo : List Int} {c1 c2 c3 c4 : Int} {nx ou : List Int} :
    Reach (fun m => (RF G K1 m).1 s o0 a k p z1 z2 z3 z4 zn zo c1 c2 c3 c4 nx ou) (G k p) := by
  refine .now fun m => ?_
  rw [st_text_reader_read_none_15a]
  unfold s_text_reader_read_none_15a
  exact br_same _

theorem f20 {s x : Int} {o0 : List Int} {a k p z1 z2 z3 z4 : Int} {zn zo : List Int} {c1 c2 c3 c4 : Int} {nx ou : List Int} :
    Reach (fun m => (RF G K1 m).2.2.2.2.1 s x o0 a k p z1 z2 z3 z4 zn zo c1 c2 c3 c4 nx ou) (G k p) := by
  apply Reach.step (k := f15)
  intro m
  rw [st_text_reader_read_none_20a]
  unfold s_text_reader_read_none_20a
  simp only [wantf_eq]
  exact br_same _

theorem f21 {s x : Int} {o0 : List Int} {a k p z1 z2 z3 z4 : Int} {zn zo : List Int} {c1 c2 c3 c4 : Int} {nx ou : List Int} :
    Reach (fun m => (RF G K1 m).2.2.2.2.2.2.2.2.1 s x o0 a k p z1 z2 z3 z4 zn zo c1 c2 c3 c4 nx ou) (G k p) := by
  apply Reach.step (k := f20)
  intro m
  rw [st_text_reader_read_none_21a]
  unfold s_text_reader_read_none_21a
  rfl

theorem f25 {s x : Int} {o0 : List Int} {a k p z1 z2 z3 z4 : Int} {zn zo : List Int} {c1 c2 c3 c4 : Int} {nx ou : List Int} (ho : ou.length ≤ 17000000) :
    Reach (fun m => (RF G K1 m).2.2.2.2.2.2.1 s x o0 a k p z1 z2 z3 z4 zn zo c1 c2 c3 c4 nx ou) (G k p) := by
  by_cases hc : c1 = 2
  · apply Reach.step (k := f21)
    intro m
    rw [st_text_reader_read_none_25a]
    unfold s_text_reader_read_none_25a
    simp only [wantf_eq, numf_eq, twice_eq, both_same]
    rw [br_eq hc, br_pos (by simp [lim]; omega)]
  · apply Reach.step (k := f21)
    intro m
    rw [st_text_reader_read_none_25a]
    unfold s_text_reader_read_none_25a
    rw [br_eq' hc]

theorem f19 {s : Int} {o0 : List Int} {a k p z1 z2 z3 z4 : Int} {zn zo : List Int} {c1 c2 c3 c4 : Int} {nx ou : List Int} :
    Reach (fun m => (RF G K1 m).2.2.1 s o0 a k p z1 z2 z3 z4 zn zo c1 c2 c3 c4 nx ou) (G k p) := by
  apply Reach.step (k := f20)
  intro m
  rw [st_text_reader_read_none_19a]
  unfold s_text_reader_read_none_19a
  rfl

variable {b : List Int} (hb : b.length ≤ 16777216) {z1 z2 z3 z4 : Int} {zn zo : List Int} {k K O N : Int}

include hb in
theorem sh : short b := by unfold short; omega

include hb

/-- Behind the first number of a cell. -/
theorem cell_rest {s x a : Nat} {nx ou : List Int} {F : Nat × List Int × List Int → Rd (Int × Int × Int × Int × List Int × List Int)} {J : Int × Int × Int × Int × List Int × List Int → Option R} (ha : a ≤ b.length) (hn : nx.length ≤ a) (ho : ou.length ≤ a) (hO : 1 ≤ O ∧ O ≤ 64) (hx : x < 70000)
    (next : ∀ a' ou', a' ≤ b.length → nx.length ≤ a' → ou'.length ≤ a' → Reach (fun m => (RF G K1 m).2.2.2.2.2.1 (s : Int) ((x + 1 : Nat) : Int) b (a' : Int) z1 z2 z3 z4 zn zo k K O N nx ou') (outR G J (F (a', nx, ou')))) :
    Reach (fun m => (RF G K1 m).2.2.2.2.2.2.2.1 (s : Int) (x : Int) b (a : Int) z1 z2 z3 z4 zn zo k K O N nx ou)
      (outR G J (bindR (if k = 2 then bindR (wantS [47] b a) fun a2 => bindR (numbS 0 (O - 1) 33 b a2) fun p => .inr (p.2, nx, ou ++ [p.1]) else .inr (a, nx, ou)) F)) := by
  have go : ∀ a' ou', a' ≤ b.length → nx.length ≤ a' → ou'.length ≤ a' → Reach (fun m => (RF G K1 m).2.2.2.2.2.2.2.2.2 (s : Int) (x : Int) b (a' : Int) z1 z2 z3 z4 zn zo k K O N nx ou') (outR G J (F (a', nx, ou'))) := by
    intro a' ou' h1 h2 h3
    refine .step (fun m => ?_) (next a' ou' h1 h2 h3)
    rw [st_text_reader_read_none_21b]
    unfold s_text_reader_read_none_21b
    rw [wr ((x : Int) + 1) (by omega) (by omega)]
    rfl
  by_cases hk : k = 2
  · rw [if_pos hk]
    cases hw : wantS [47] b a with
    | inl e =>
      apply Reach.step (k := f21)
      intro m
      rw [st_text_reader_read_none_25b]
      unfold s_text_reader_read_none_25b
      simp only [twice_eq, both_same]
      rw [br_eq hk, want_bad (s := ByteArray.mk #[47]) (sh hb) (by decide) ha hw]
      simp only [numf_eq]
      rw [br_pos (by simp [lim]; omega)]
    | inr a2 =>
      have ha2 := wantS_le hw ha
      have la2 := (wantS_ok hw).1
      simp only [bindR]
      cases hq : numbS 0 (O - 1) 33 b a2 with
      | inl e =>
        apply Reach.step (k := f21)
        intro m
        rw [st_text_reader_read_none_25b]
        unfold s_text_reader_read_none_25b
        simp only [twice_eq, both_same]
        rw [br_eq hk, want_ok (s := ByteArray.mk #[47]) (sh hb) (by decide) ha hw, wr (O - 1) (by omega) (by omega), num_bad (sh hb) ha2 hq]
        rw [br_pos (by simp [lim]; omega)]
      | inr p =>
        have hp := numbS_le hq ha2
        have lp := numbS_lt hq
        simp only [List.length_cons, List.length_nil] at la2
        refine .step (fun m => ?_) (go p.2 (ou ++ [p.1]) hp (by omega) (by simp; omega))
        rw [st_text_reader_read_none_25b]
        unfold s_text_reader_read_none_25b
        simp only [twice_eq, both_same]
        rw [br_eq hk, want_ok (s := ByteArray.mk #[47]) (sh hb) (by decide) ha hw, wr (O - 1) (by omega) (by omega), num_ok (sh hb) ha2 hq]
        rw [br_pos (by simp [lim]; omega)]
  · rw [if_neg hk]
    refine .step (fun m => ?_) (go a ou ha hn ho)
    rw [st_text_reader_read_none_25b]
    unfold s_text_reader_read_none_25b
    rw [br_eq' hk]

/-- From a cell's first number on. -/
theorem cell_num {s x a : Nat} {nx ou : List Int} {F : Nat × List Int × List Int → Rd (Int × Int × Int × Int × List Int × List Int)} {J : Int × Int × Int × Int × List Int × List Int → Option R} (ha : a ≤ b.length) (hn : nx.length ≤ a) (ho : ou.length ≤ a) (hO : 1 ≤ O ∧ O ≤ 64) (hN : 1 ≤ N ∧ N ≤ 1024) (hx : x < 70000)
    (next : ∀ a' nx' ou', a' ≤ b.length → nx'.length ≤ a' → ou'.length ≤ a' → Reach (fun m => (RF G K1 m).2.2.2.2.2.1 (s : Int) ((x + 1 : Nat) : Int) b (a' : Int) z1 z2 z3 z4 zn zo k K O N nx' ou') (outR G J (F (a', nx', ou')))) :
    Reach (fun m => l_text_reader_number_none 0 (IntKind.i64.wrap (N - 1)) 32 b (a : Int)
        (fun n b' i kk p => bi (decide ((nx.length + [n].length) * 8 ≤ lim)) ((RF G K1 m).2.2.2.2.2.2.1 (s : Int) (x : Int) b' i kk p z1 z2 z3 z4 zn zo k K O N (nx ++ [n]) ou) none)
        (fun n b' i => bi (decide ((nx.length + [n].length) * 8 ≤ lim)) ((RF G K1 m).2.2.2.2.2.2.2.1 (s : Int) (x : Int) b' i z1 z2 z3 z4 zn zo k K O N (nx ++ [n]) ou) none))
      (outR G J (bindR (bindR (numbS 0 (N - 1) 32 b a) fun q => if k = 2 then bindR (wantS [47] b q.2) fun a2 => bindR (numbS 0 (O - 1) 33 b a2) fun p => .inr (p.2, nx ++ [q.1], ou ++ [p.1]) else .inr (q.2, nx ++ [q.1], ou)) F)) := by
  cases hq : numbS 0 (N - 1) 32 b a with
  | inl e =>
    apply Reach.same (k := f25 (K1 := K1) (ou := ou) (by omega))
    intro m
    rw [wr (N - 1) (by omega) (by omega), num_bad (sh hb) ha hq, br_pos (by simp [lim]; omega)]
  | inr q =>
    have hp := numbS_le hq ha
    have lp := numbS_lt hq
    simp only [bindR_inr]
    refine .same (fun m => ?_) (cell_rest hb (a := q.2) (nx := nx ++ [q.1]) (ou := ou) hp (by simp; omega) (by omega) hO hx fun a' ou' h1 h2 h3 => next a' (nx ++ [q.1]) ou' h1 h2 h3)
    rw [wr (N - 1) (by omega) (by omega), num_ok (sh hb) ha hq, br_pos (by simp [lim]; omega)]

theorem cells_run {s : Nat} {F : Nat × List Int × List Int → Rd (Int × Int × Int × Int × List Int × List Int)} {J : Int × Int × Int × Int × List Int × List Int → Option R} (hK : 1 ≤ K ∧ K ≤ 64) (hO : 1 ≤ O ∧ O ≤ 64) (hN : 1 ≤ N ∧ N ≤ 1024)
    (next : ∀ a' nx' ou', a' ≤ b.length → nx'.length ≤ a' → ou'.length ≤ a' → Reach (fun m => (RF G K1 m).2.2.2.2.2.1 (s : Int) K b (a' : Int) z1 z2 z3 z4 zn zo k K O N nx' ou') (outR G J (F (a', nx', ou')))) :
    ∀ (d x a : Nat) (nx ou : List Int), x + d = K.toNat → a ≤ b.length → nx.length ≤ a → ou.length ≤ a →
      Reach (fun m => (RF G K1 m).2.2.2.2.2.1 (s : Int) (x : Int) b (a : Int) z1 z2 z3 z4 zn zo k K O N nx ou) (outR G J (bindR (cellsS k O N b d x a nx ou) F))
  | 0, x, a, nx, ou, hd, ha, hn, ho => by
    have e : (x : Int) = K := by omega
    rw [e]
    exact next a nx ou ha hn ho
  | d + 1, x, a, nx, ou, hd, ha, hn, ho => by
    have hxK : (x : Int) < K := by omega
    have ih := fun a' nx' ou' h1 h2 h3 => cells_run hK hO hN next d (x + 1) a' nx' ou' (by omega) h1 h2 h3
    have eF : bindR (cellsS k O N b (d + 1) x a nx ou) F = bindR (cellS k O N b x a nx ou) fun q => bindR (cellsS k O N b d (x + 1) q.1 q.2.1 q.2.2) F := by
      simp only [cellsS]
      cases cellS k O N b x a nx ou <;> rfl
    rw [eF]
    have body := fun a' nx' ou' h1 h2 h3 => cell_num hb (G := G) (K1 := K1) (z1 := z1) (z2 := z2) (z3 := z3) (z4 := z4) (zn := zn) (zo := zo) (k := k) (K := K) (s := s) (x := x) (a := a') (nx := nx') (ou := ou') (F := fun q => bindR (cellsS k O N b d (x + 1) q.1 q.2.1 q.2.2) F) (J := J) h1 h2 h3 hO hN (by omega) ih
    have eC : ∀ y : Rd Nat, bindR (bindR y fun a1 => bindR (numbS 0 (N - 1) 32 b a1) fun q => if k = 2 then bindR (wantS [47] b q.2) fun a2 => bindR (numbS 0 (O - 1) 33 b a2) fun p => .inr (p.2, nx ++ [q.1], ou ++ [p.1]) else .inr (q.2, nx ++ [q.1], ou)) (fun q => bindR (cellsS k O N b d (x + 1) q.1 q.2.1 q.2.2) F) =
        bindR y fun a1 => bindR (bindR (numbS 0 (N - 1) 32 b a1) fun q => if k = 2 then bindR (wantS [47] b q.2) fun a2 => bindR (numbS 0 (O - 1) 33 b a2) fun p => .inr (p.2, nx ++ [q.1], ou ++ [p.1]) else .inr (q.2, nx ++ [q.1], ou)) (fun q => bindR (cellsS k O N b d (x + 1) q.1 q.2.1 q.2.2) F) := by
      intro y
      cases y <;> rfl
    unfold cellS
    rw [eC]
    have wanted : (0 < x ∨ k = 1) → ∀ (g : Nat → Option R) , (∀ m, g (m + 1) = l_text_reader_want_none (ByteArray.mk #[32]) b (a : Int)
        (fun r314 r315 r316 r317 => bi (decide ((nx.length + [(0 : Int)].length) * 8 ≤ lim)) ((RF G K1 m).2.2.2.2.2.2.1 (s : Int) (x : Int) r314 r315 r316 r317 z1 z2 z3 z4 zn zo k K O N (nx ++ [0]) ou) none)
        (fun r323 r324 => l_text_reader_number_none 0 (IntKind.i64.wrap (N - 1)) 32 r323 r324
          (fun n b' i kk p => bi (decide ((nx.length + [n].length) * 8 ≤ lim)) ((RF G K1 m).2.2.2.2.2.2.1 (s : Int) (x : Int) b' i kk p z1 z2 z3 z4 zn zo k K O N (nx ++ [n]) ou) none)
          (fun n b' i => bi (decide ((nx.length + [n].length) * 8 ≤ lim)) ((RF G K1 m).2.2.2.2.2.2.2.1 (s : Int) (x : Int) b' i z1 z2 z3 z4 zn zo k K O N (nx ++ [n]) ou) none))) →
        Reach g (outR G J (bindR (wantS [32] b a) fun a1 => bindR (bindR (numbS 0 (N - 1) 32 b a1) fun q => if k = 2 then bindR (wantS [47] b q.2) fun a2 => bindR (numbS 0 (O - 1) 33 b a2) fun p => .inr (p.2, nx ++ [q.1], ou ++ [p.1]) else .inr (q.2, nx ++ [q.1], ou)) (fun q => bindR (cellsS k O N b d (x + 1) q.1 q.2.1 q.2.2) F))) := by
      intro _ g hg
      cases hw : wantS [32] b a with
      | inl e =>
        apply Reach.step (k := f25 (K1 := K1) (ou := ou) (by omega))
        intro m
        rw [hg, want_bad (s := ByteArray.mk #[32]) (sh hb) (by decide) ha hw, br_pos (by simp [lim]; omega)]
      | inr a2 =>
        have ha2 := wantS_le hw ha
        have la2 := (wantS_ok hw).1
        simp only [List.length_cons, List.length_nil] at la2
        refine .step (fun m => ?_) (body a2 nx ou ha2 (by omega) (by omega))
        rw [hg, want_ok (s := ByteArray.mk #[32]) (sh hb) (by decide) ha hw]
    by_cases hx0 : 0 < x
    · rw [if_pos (.inl hx0)]
      refine wanted (.inl hx0) _ fun m => ?_
      rw [st_text_reader_read_none_20b]
      unfold s_text_reader_read_none_20b
      simp only [twice_eq, both_same, numf_eq]
      rw [br_pos hxK, br_pos (by omega)]
    · by_cases hk : k = 1
      · rw [if_pos (.inr hk)]
        refine wanted (.inr hk) _ fun m => ?_
        rw [st_text_reader_read_none_20b]
        unfold s_text_reader_read_none_20b
        simp only [twice_eq, both_same, numf_eq]
        rw [br_pos hxK, br_neg (by omega), br_eq hk]
      · rw [if_neg (by omega)]
        refine .step (fun m => ?_) (body a nx ou ha hn ho)
        rw [st_text_reader_read_none_20b]
        unfold s_text_reader_read_none_20b
        simp only [twice_eq, both_same, numf_eq]
        rw [br_pos hxK, br_neg (by omega), br_eq' hk]

omit hb in
theorem bindR_assoc {α β γ : Type} (x : Rd α) (f : α → Rd β) (g : β → Rd γ) : bindR (bindR x f) g = bindR x fun a => bindR (f a) g := by
  cases x <;> rfl

/-- What is said of a text that was read to its end. -/
def endI (k K O N : Int) (b : List Int) (q : Nat × List Int × List Int) : Rd (Int × Int × Int × Int × List Int × List Int) :=
  if q.1 < b.length then .inl (6, (q.1 : Int)) else .inr (k, K, O, N, q.2.1, q.2.2)

theorem rows_run (hK : 1 ≤ K ∧ K ≤ 64) (hO : 1 ≤ O ∧ O ≤ 64) (hN : 1 ≤ N ∧ N ≤ 1024) :
    ∀ (d s a : Nat) (nx ou : List Int), s + d = N.toNat → a ≤ b.length → nx.length ≤ a → ou.length ≤ a →
      Reach (fun m => (RF G K1 m).2.1 (s : Int) b (a : Int) z1 z2 z3 z4 zn zo k K O N nx ou) (outR G (fun m => K1 m.1 m.2.1 m.2.2.1 m.2.2.2.1 b (b.length : Int) m.2.2.2.2.1 m.2.2.2.2.2) (bindR (rowsS k K O N b d a nx ou) (endI k K O N b)))
  | 0, s, a, nx, ou, hd, ha, hn, ho => by
    refine .now fun m => ?_
    rw [st_text_reader_read_none_15b]
    unfold s_text_reader_read_none_15b
    rw [br_neg (by omega)]
    simp only [rowsS, bindR_inr, endI]
    by_cases h : a < b.length
    · rw [br_pos (by omega), if_pos h]
      rfl
    · have e : a = b.length := by omega
      rw [br_neg (by omega), if_neg h, e]
      rfl
  | d + 1, s, a, nx, ou, hd, ha, hn, ho => by
    have hsN : (s : Int) < N := by omega
    have ih := fun a' nx' ou' h1 h2 h3 => rows_run hK hO hN d (s + 1) a' nx' ou' (by omega) h1 h2 h3
    simp only [rowsS, rowS, bindR_assoc, bindR_inr]
    have tail : ∀ a' nx' ou', a' ≤ b.length → nx'.length ≤ a' → ou'.length ≤ a' → Reach (fun m => (RF G K1 m).2.2.2.1 (s : Int) b (a' : Int) z1 z2 z3 z4 zn zo k K O N nx' ou')
        (outR G (fun m => K1 m.1 m.2.1 m.2.2.1 m.2.2.2.1 b (b.length : Int) m.2.2.2.2.1 m.2.2.2.2.2) (bindR (cellsS k O N b K.toNat 0 a' nx' ou') fun q => bindR (wantS [10] b q.1) fun a2 => bindR (rowsS k K O N b d a2 q.2.1 q.2.2) (endI k K O N b))) := by
      intro a' nx' ou' h1 h2 h3
      refine .step (fun m => ?_) (cells_run hb (K1 := K1) (z1 := z1) (z2 := z2) (z3 := z3) (z4 := z4) (zn := zn) (zo := zo) (s := s) hK hO hN ?_ K.toNat 0 a' nx' ou' (by omega) h1 h2 h3)
      · rw [st_text_reader_read_none_19b]
        unfold s_text_reader_read_none_19b
        rfl
      · intro a2 nx2 ou2 g1 g2 g3
        cases hw : wantS [10] b a2 with
        | inl e =>
          apply Reach.step (k := f15 (K1 := K1))
          intro m
          rw [st_text_reader_read_none_20b]
          unfold s_text_reader_read_none_20b
          rw [br_neg (by omega), want_bad (s := ByteArray.mk #[10]) (sh hb) (by decide) g1 hw]
        | inr a3 =>
          have ha3 := wantS_le hw g1
          have la3 := (wantS_ok hw).1
          refine .step (fun m => ?_) (ih a3 nx2 ou2 ha3 (by omega) (by omega))
          rw [st_text_reader_read_none_20b]
          unfold s_text_reader_read_none_20b
          rw [br_neg (by omega), want_ok (s := ByteArray.mk #[10]) (sh hb) (by decide) g1 hw, wr ((s : Int) + 1) (by omega) (by omega)]
          rfl
    unfold leadS
    by_cases hk : k = 1
    · rw [if_pos hk]
      cases hq : numbS 0 1 33 b a with
      | inl e =>
        apply Reach.step (k := f19 (K1 := K1))
        intro m
        rw [st_text_reader_read_none_15b]
        unfold s_text_reader_read_none_15b
        simp only [twice_eq, both_same]
        rw [br_pos hsN, br_eq hk, num_bad (sh hb) ha hq, br_pos (by simp [lim]; omega)]
      | inr q =>
        have hp := numbS_le hq ha
        have lp := numbS_lt hq
        simp only [bindR_inr]
        refine .step (fun m => ?_) (tail q.2 nx (ou ++ [q.1]) hp (by omega) (by simp; omega))
        rw [st_text_reader_read_none_15b]
        unfold s_text_reader_read_none_15b
        simp only [twice_eq, both_same]
        rw [br_pos hsN, br_eq hk, num_ok (sh hb) ha hq, br_pos (by simp [lim]; omega)]
    · rw [if_neg hk]
      simp only [bindR_inr]
      refine .step (fun m => ?_) (tail a nx ou ha hn ho)
      rw [st_text_reader_read_none_15b]
      unfold s_text_reader_read_none_15b
      rw [br_pos hsN, br_eq' hk]

theorem read_eq : l_text_reader_read_none b 0 (fun _ _ _ _ _ _ k p _ _ => G k p) K1 = outR G (fun m => K1 m.1 m.2.1 m.2.2.1 m.2.2.2.1 b (b.length : Int) m.2.2.2.2.1 m.2.2.2.2.2) (readS b) := by
  have hs := sh hb
  refine evl_eq ?_
  have eR : readS b = bindR (headI b) fun h => bindR (rowsS h.1 h.2.1 h.2.2.1 h.2.2.2.1 b h.2.2.2.1.toNat h.2.2.2.2 [] []) (endI h.1 h.2.1 h.2.2.1 h.2.2.2.1 b) := rfl
  rw [eR]
  unfold headI
  have dfa : Reach (fun m => l_text_reader_want_none (ByteArray.mk #[100, 102, 97, 32]) b 0
      (fun r220 r221 r222 r223 => (RF G K1 m).1 0 r220 r221 r222 r223 0 0 0 0 [] [] 1 0 2 0 [] [])
      (fun r242 r243 => l_text_reader_number_none 1 64 1 r242 r243
        (fun r244 r245 r246 r247 r248 => (RF G K1 m).1 0 r245 r246 r247 r248 0 0 0 0 [] [] 1 r244 2 0 [] [])
        (fun r262 r263 r264 => l_text_reader_want_none (ByteArray.mk #[32]) r263 r264
          (fun r265 r266 r267 r268 => (RF G K1 m).1 0 r265 r266 r267 r268 0 0 0 0 [] [] 1 r262 2 0 [] [])
          (fun r278 r279 => l_text_reader_number_none 1 1024 3 r278 r279
            (fun r280 r281 r282 r283 r284 => (RF G K1 m).1 0 r281 r282 r283 r284 0 0 0 0 [] [] 1 r262 2 r280 [] [])
            (fun r289 r290 r291 => l_text_reader_want_none (ByteArray.mk #[10]) r290 r291
              (fun r292 r293 r294 r295 => (RF G K1 m).1 0 r292 r293 r294 r295 0 0 0 0 [] [] 1 r262 2 r289 [] [])
              (fun r296 r297 => (RF G K1 m).2.1 0 r296 r297 0 0 0 0 [] [] 1 r262 2 r289 [] []))))))
      (outR G (fun m => K1 m.1 m.2.1 m.2.2.1 m.2.2.2.1 b (b.length : Int) m.2.2.2.2.1 m.2.2.2.2.2) (bindR (bindR (wantS [100, 102, 97, 32] b 0) fun a0 => bindR (numbS 1 64 1 b a0) fun q1 => bindR (wantS [32] b q1.2) fun a1 =>
        bindR (numbS 1 1024 3 b a1) fun q3 => bindR (wantS [10] b q3.2) fun a3 => .inr (1, q1.1, 2, q3.1, a3)) fun h => bindR (rowsS h.1 h.2.1 h.2.2.1 h.2.2.2.1 b h.2.2.2.1.toNat h.2.2.2.2 [] []) (endI h.1 h.2.1 h.2.2.1 h.2.2.2.1 b))) := by
    cases w0 : wantS [100, 102, 97, 32] b 0 with
    | inl e =>
      apply Reach.same (k := f15 (K1 := K1)); intro m
      exact want_bad (s := ByteArray.mk #[100, 102, 97, 32]) hs (by decide) (Nat.zero_le _) w0 _ _
    | inr a0 =>
      have g0 := wantS_le w0 (Nat.zero_le _)
      have W0 := fun {R : Type} K0 K1 => want_ok (R := R) (s := ByteArray.mk #[100, 102, 97, 32]) hs (by decide) (Nat.zero_le _) w0 K0 K1
      simp only [bindR_inr]
      cases n1 : numbS 1 64 1 b a0 with
      | inl e =>
        apply Reach.same (k := f15 (K1 := K1)); intro m
        exact (W0 _ _).trans (num_bad hs g0 n1 _ _)
      | inr q1 =>
        have g1 := numbS_le n1 g0
        simp only [bindR_inr]
        cases w1 : wantS [32] b q1.2 with
        | inl e =>
          apply Reach.same (k := f15 (K1 := K1)); intro m
          exact (W0 _ _).trans ((num_ok hs g0 n1 _ _).trans (want_bad (s := ByteArray.mk #[32]) hs (by decide) g1 w1 _ _))
        | inr a1 =>
          have g2 := wantS_le w1 g1
          simp only [bindR_inr]
          cases n3 : numbS 1 1024 3 b a1 with
          | inl e =>
            apply Reach.same (k := f15 (K1 := K1)); intro m
            exact (W0 _ _).trans ((num_ok hs g0 n1 _ _).trans ((want_ok (s := ByteArray.mk #[32]) hs (by decide) g1 w1 _ _).trans (num_bad hs g2 n3 _ _)))
          | inr q3 =>
            have g3 := numbS_le n3 g2
            simp only [bindR_inr]
            cases w3 : wantS [10] b q3.2 with
            | inl e =>
              apply Reach.same (k := f15 (K1 := K1)); intro m
              exact (W0 _ _).trans ((num_ok hs g0 n1 _ _).trans ((want_ok (s := ByteArray.mk #[32]) hs (by decide) g1 w1 _ _).trans ((num_ok hs g2 n3 _ _).trans (want_bad (s := ByteArray.mk #[10]) hs (by decide) g3 w3 _ _))))
            | inr a3 =>
              have g4 := wantS_le w3 g3
              simp only [bindR_inr]
              obtain ⟨_, _, k1, k2⟩ := numbS_ok n1
              obtain ⟨_, _, k3, k4⟩ := numbS_ok n3
              refine .same (fun m => ?_) (rows_run hb (z1 := 0) (z2 := 0) (z3 := 0) (z4 := 0) (zn := []) (zo := []) (k := 1) (K := q1.1) (O := 2) (N := q3.1) ⟨k1, k2⟩ ⟨by omega, by omega⟩ ⟨k3, k4⟩ q3.1.toNat 0 a3 [] [] (by omega) g4 (by simp) (by simp))
              exact (W0 _ _).trans ((num_ok hs g0 n1 _ _).trans ((want_ok (s := ByteArray.mk #[32]) hs (by decide) g1 w1 _ _).trans ((num_ok hs g2 n3 _ _).trans (want_ok (s := ByteArray.mk #[10]) hs (by decide) g3 w3 _ _))))
  by_cases h0 : b[0]? = some 109
  · rw [if_pos h0]
    have hlt : 0 < b.length := (List.getElem?_eq_some_iff.1 h0).1
    have e0 : b.getD 0 0 = 109 := by rw [List.getD_eq_getElem?_getD, h0]; rfl
    cases w0 : wantS [109, 101, 97, 108, 121, 32] b 0 with
    | inl e =>
      apply Reach.same (k := f15 (K1 := K1)); intro m
      unfold e_text_reader_read_none
      simp only [wantf_eq, numf_eq]
      rw [br_pos (by omega), br_pos (by omega), br_eq e0]
      exact want_bad (s := ByteArray.mk #[109, 101, 97, 108, 121, 32]) hs (by decide) (Nat.zero_le _) w0 _ _
    | inr a0 =>
      have g0 := wantS_le w0 (Nat.zero_le _)
      have W0 := fun {R : Type} K0 K1 => want_ok (R := R) (s := ByteArray.mk #[109, 101, 97, 108, 121, 32]) hs (by decide) (Nat.zero_le _) w0 K0 K1
      simp only [bindR_inr]
      cases n1 : numbS 1 64 1 b a0 with
      | inl e =>
        apply Reach.same (k := f15 (K1 := K1)); intro m
        unfold e_text_reader_read_none
        simp only [wantf_eq, numf_eq]
        rw [br_pos (by omega), br_pos (by omega), br_eq e0]
        exact (W0 _ _).trans (num_bad hs g0 n1 _ _)
      | inr q1 =>
        have g1 := numbS_le n1 g0
        simp only [bindR_inr]
        cases w1 : wantS [32] b q1.2 with
        | inl e =>
          apply Reach.same (k := f15 (K1 := K1)); intro m
          unfold e_text_reader_read_none
          simp only [wantf_eq, numf_eq]
          rw [br_pos (by omega), br_pos (by omega), br_eq e0]
          exact (W0 _ _).trans ((num_ok hs g0 n1 _ _).trans (want_bad (s := ByteArray.mk #[32]) hs (by decide) g1 w1 _ _))
        | inr a1 =>
          have g2 := wantS_le w1 g1
          simp only [bindR_inr]
          cases n2 : numbS 1 64 33 b a1 with
          | inl e =>
            apply Reach.same (k := f15 (K1 := K1)); intro m
            unfold e_text_reader_read_none
            simp only [wantf_eq, numf_eq]
            rw [br_pos (by omega), br_pos (by omega), br_eq e0]
            exact (W0 _ _).trans ((num_ok hs g0 n1 _ _).trans ((want_ok (s := ByteArray.mk #[32]) hs (by decide) g1 w1 _ _).trans (num_bad hs g2 n2 _ _)))
          | inr q2 =>
            have g3 := numbS_le n2 g2
            simp only [bindR_inr]
            cases w2 : wantS [32] b q2.2 with
            | inl e =>
              apply Reach.same (k := f15 (K1 := K1)); intro m
              unfold e_text_reader_read_none
              simp only [wantf_eq, numf_eq]
              rw [br_pos (by omega), br_pos (by omega), br_eq e0]
              exact (W0 _ _).trans ((num_ok hs g0 n1 _ _).trans ((want_ok (s := ByteArray.mk #[32]) hs (by decide) g1 w1 _ _).trans ((num_ok hs g2 n2 _ _).trans (want_bad (s := ByteArray.mk #[32]) hs (by decide) g3 w2 _ _))))
            | inr a2 =>
              have g4 := wantS_le w2 g3
              simp only [bindR_inr]
              cases n3 : numbS 1 1024 3 b a2 with
              | inl e =>
                apply Reach.same (k := f15 (K1 := K1)); intro m
                unfold e_text_reader_read_none
                simp only [wantf_eq, numf_eq]
                rw [br_pos (by omega), br_pos (by omega), br_eq e0]
                exact (W0 _ _).trans ((num_ok hs g0 n1 _ _).trans ((want_ok (s := ByteArray.mk #[32]) hs (by decide) g1 w1 _ _).trans ((num_ok hs g2 n2 _ _).trans ((want_ok (s := ByteArray.mk #[32]) hs (by decide) g3 w2 _ _).trans (num_bad hs g4 n3 _ _)))))
              | inr q3 =>
                have g5 := numbS_le n3 g4
                simp only [bindR_inr]
                cases w3 : wantS [10] b q3.2 with
                | inl e =>
                  apply Reach.same (k := f15 (K1 := K1)); intro m
                  unfold e_text_reader_read_none
                  simp only [wantf_eq, numf_eq]
                  rw [br_pos (by omega), br_pos (by omega), br_eq e0]
                  exact (W0 _ _).trans ((num_ok hs g0 n1 _ _).trans ((want_ok (s := ByteArray.mk #[32]) hs (by decide) g1 w1 _ _).trans ((num_ok hs g2 n2 _ _).trans ((want_ok (s := ByteArray.mk #[32]) hs (by decide) g3 w2 _ _).trans ((num_ok hs g4 n3 _ _).trans (want_bad (s := ByteArray.mk #[10]) hs (by decide) g5 w3 _ _))))))
                | inr a3 =>
                  have g6 := wantS_le w3 g5
                  simp only [bindR_inr]
                  obtain ⟨_, _, k1, k2⟩ := numbS_ok n1
                  obtain ⟨_, _, k3, k4⟩ := numbS_ok n2
                  obtain ⟨_, _, k5, k6⟩ := numbS_ok n3
                  refine .same (fun m => ?_) (rows_run hb (z1 := 0) (z2 := 0) (z3 := 0) (z4 := 0) (zn := []) (zo := []) (k := 2) (K := q1.1) (O := q2.1) (N := q3.1) ⟨k1, k2⟩ ⟨k3, k4⟩ ⟨k5, k6⟩ q3.1.toNat 0 a3 [] [] (by omega) g6 (by simp) (by simp))
                  unfold e_text_reader_read_none
                  simp only [wantf_eq, numf_eq]
                  rw [br_pos (by omega), br_pos (by omega), br_eq e0]
                  exact (W0 _ _).trans ((num_ok hs g0 n1 _ _).trans ((want_ok (s := ByteArray.mk #[32]) hs (by decide) g1 w1 _ _).trans ((num_ok hs g2 n2 _ _).trans ((want_ok (s := ByteArray.mk #[32]) hs (by decide) g3 w2 _ _).trans ((num_ok hs g4 n3 _ _).trans (want_ok (s := ByteArray.mk #[10]) hs (by decide) g5 w3 _ _))))))
  · rw [if_neg h0]
    refine .same (fun m => ?_) dfa
    unfold e_text_reader_read_none
    simp only [wantf_eq, numf_eq]
    by_cases hl : 0 < b.length
    · have e0 : ¬ b.getD 0 0 = 109 := by
        intro h
        apply h0
        rw [List.getElem?_eq_getElem hl]
        rw [getD_of 0 hl] at h
        rw [h]
      rw [br_pos (by omega), br_pos (by omega), br_eq' e0]
    · rw [br_neg (by omega)]
end reading

/-- errors.As -/
def l_errors_As_fault_nil {R : Type} (o0 : Int) (o0_1 : Int) (K0 : Int → Int → Option R) : Option R := K0 o0 o0_1

/-- errors.As -/
def l_errors_As_none_fault_nil {R : Type}  (K0 : Option R) : Option R := K0 

/-- tutor/text.Import -/
def l_text_Import {R : Type} (b : List Int) (K0 : Int → Int → Int → Int → Int → Int → (List Int) → (List Int) → Option R) : Option R :=
  bi (decide ((b.length : Int) > 16777216))
   (K0 0 0 0 0 2 0 ([] : List Int) ([] : List Int))
   (l_text_reader_read_none b 0
    (fun r1 r2 r3 r4 r5 r6 r7 r8 r9 r10 =>
     l_errors_As_fault_nil r7 r8
      (fun r11 r12 =>
       both
        (both
         (both
          (thrice
           (K0 0 0 0 0 r11 r12 ([] : List Int) ([] : List Int)))
          (both
           (twice
            (K0 0 0 0 0 r11 r12 ([] : List Int) ([] : List Int)))
           (K0 0 0 0 0 r11 r12 ([] : List Int) ([] : List Int))))
         (both
          (both
           (thrice
            (K0 0 0 0 0 r11 r12 ([] : List Int) ([] : List Int)))
           (both
            (twice
             (K0 0 0 0 0 r11 r12 ([] : List Int) ([] : List Int)))
            (both
             (twice
              (K0 0 0 0 0 r11 r12 ([] : List Int) ([] : List Int)))
             (K0 0 0 0 0 r11 r12 ([] : List Int) ([] : List Int)))))
          (twice
           (both
            (twice
             (K0 0 0 0 0 r11 r12 ([] : List Int) ([] : List Int)))
            (K0 0 0 0 0 r11 r12 ([] : List Int) ([] : List Int))))))
        (both
         (both
          (both
           (thrice
            (K0 0 0 0 0 r11 r12 ([] : List Int) ([] : List Int)))
           (both
            (twice
             (K0 0 0 0 0 r11 r12 ([] : List Int) ([] : List Int)))
            (both
             (twice
              (K0 0 0 0 0 r11 r12 ([] : List Int) ([] : List Int)))
             (K0 0 0 0 0 r11 r12 ([] : List Int) ([] : List Int)))))
          (both
           (both
            (twice
             (K0 0 0 0 0 r11 r12 ([] : List Int) ([] : List Int)))
            (K0 0 0 0 0 r11 r12 ([] : List Int) ([] : List Int)))
           (both
            (both
             (twice
              (K0 0 0 0 0 r11 r12 ([] : List Int) ([] : List Int)))
             (K0 0 0 0 0 r11 r12 ([] : List Int) ([] : List Int)))
            (K0 0 0 0 0 r11 r12 ([] : List Int) ([] : List Int)))))
         (both
          (twice
           (both
            (twice
             (K0 0 0 0 0 r11 r12 ([] : List Int) ([] : List Int)))
            (K0 0 0 0 0 r11 r12 ([] : List Int) ([] : List Int))))
          (both
           (both
            (twice
             (K0 0 0 0 0 r11 r12 ([] : List Int) ([] : List Int)))
            (K0 0 0 0 0 r11 r12 ([] : List Int) ([] : List Int)))
           (K0 0 0 0 0 r11 r12 ([] : List Int) ([] : List Int)))))))
    (fun r13 r14 r15 r16 r17 r18 r19 r20 =>
     l_errors_As_none_fault_nil
      (K0 r13 r14 r15 r16 0 (b.length : Int) r19 r20)))

theorem import_eq {R : Type} (b : List Int) (K0 : Int → Int → Int → Int → Int → Int → List Int → List Int → Option R) :
    l_text_Import b K0 = K0 (impS b).k (impS b).K (impS b).O (impS b).N (impS b).e (impS b).p (impS b).nx (impS b).ou := by
  unfold l_text_Import impS
  by_cases h : (b.length : Int) > 16777216
  · rw [br_pos h, if_pos h]
  · rw [br_neg h, if_neg h]
    simp only [l_errors_As_fault_nil, l_errors_As_none_fault_nil, both_same, twice_eq, thrice_eq]
    rw [read_eq (G := fun k p => K0 0 0 0 0 k p [] []) (by omega)]
    cases readS b <;> rfl

/-- tutor/tutorlaw08.num -/
def l_tutorlaw08_num {R : Type} (e : Int) (K0 : Int → Option R) : Option R :=
  K0 e

/-- tutor/tutorref01.Same -/
def s_tutorref01_Same_4 {R : Type} (g37_4 : (List Int) → (List Int) → Int → Option R) (K0 : Bool → Option R) (a : List Int) (b : List Int) (i : Int) : Option R :=
  bi (decide (i < (a.length : Int)))
   (bi (decide (0 ≤ i ∧ i < ((a.length : Nat) : Int)))
    (bi (decide (0 ≤ i ∧ i < ((b.length : Nat) : Int)))
     (bi ((a.getD i.toNat 0) != (b.getD i.toNat 0))
      (K0 false)
      (g37_4 a b (IntKind.i64.wrap (i + 1))))
     none)
    none)
   (K0 true)

/-- tutor/tutorref01.Same -/
def e_tutorref01_Same {R : Type} (g37_4 : (List Int) → (List Int) → Int → Option R) (K0 : Bool → Option R) (a : List Int) (b : List Int) : Option R :=
  bi ((a.length : Int) != (b.length : Int))
   (K0 false)
   (g37_4 a b 0)

def run_tutorref01_Same {R : Type} (K0 : Bool → Option R) : Nat → (List Int) → (List Int) → Int → Option R
  | 0 => fun _ _ _ => none
  | n + 1 => s_tutorref01_Same_4 (run_tutorref01_Same K0 n) K0

def l_tutorref01_Same {R : Type} (a : List Int) (b : List Int) (K0 : Bool → Option R) : Option R := bi (decide (short a)) (K0 (decide (a = b))) none

theorem findP_zip {a b : List Int} (hl : a.length = b.length) : findP (fun i => a.getD i 0 != b.getD i 0) (List.range a.length) = none ↔ a = b := by
  rw [findP_none]
  constructor
  · intro h
    refine List.ext_getElem hl fun i h1 h2 => ?_
    have := h i (by simpa using h1)
    rw [getD_of 0 h1, getD_of 0 h2] at this
    simpa using this
  · rintro rfl i _
    simp

theorem ok_tutorref01_Same {R : Type} (a : List Int) (b : List Int) (K0 : Bool → Option R) {r : R} (h : l_tutorref01_Same a b K0 = some r) : ∃ fuel, e_tutorref01_Same (run_tutorref01_Same K0 fuel) K0 a b = some r := by
  unfold l_tutorref01_Same at h
  rcases bi_some h with ⟨hs, h⟩ | ⟨_, h⟩
  · have hs : a.length < 4611686018427387904 := of_decide_eq_true hs
    refine ⟨a.length + 1, ?_⟩
    rw [← h]
    unfold e_tutorref01_Same
    by_cases hl : a.length = b.length
    · rw [br_ne' (by omega)]
      have key := scan_all (F := fun m i => run_tutorref01_Same K0 m a b (i : Int)) (fun i => a.getD i 0 != b.getD i 0) (l := List.range a.length) (A := fun i => K0 false) (B := K0 true)
        (fun m => by
          show s_tutorref01_Same_4 _ _ _ _ _ = _
          unfold s_tutorref01_Same_4
          rw [List.length_range, br_neg (by omega)])
        (fun m i hi => by
          rw [List.length_range] at hi
          show s_tutorref01_Same_4 _ _ _ _ _ = _
          unfold s_tutorref01_Same_4
          rw [br_pos (by omega), br_pos (by omega), br_pos (by omega), br_if, Int.toNat_natCast, wr _ (by omega) (by omega), List.getElem_range]
          rfl)
      rw [List.length_range] at key
      refine key.trans ?_
      by_cases e : a = b
      · rw [(findP_zip hl).2 e]
        simp [e]
      · have : findP (fun i => a.getD i 0 != b.getD i 0) (List.range a.length) ≠ none := fun h => e ((findP_zip hl).1 h)
        cases hf : findP (fun i => a.getD i 0 != b.getD i 0) (List.range a.length) with
        | none => exact absurd hf this
        | some j => simp [e]
    · rw [br_ne (by omega)]
      have e : a ≠ b := fun e => hl (by rw [e])
      simp [e]
  · cases h

theorem same_eq {R : Type} {a b : List Int} (h : short a) (K0 : Bool → Option R) : l_tutorref01_Same a b K0 = K0 (decide (a = b)) := by
  unfold l_tutorref01_Same
  rw [br_pos h]

/-- tutor/tutorref03.Same -/
def l_tutorref03_Same {R : Type} (a : Int) (a_1 : Int) (a_2 : Int) (a_3 : Int) (a_4 : List Int) (a_5 : List Int) (b : Int) (b_1 : Int) (b_2 : Int) (b_3 : Int) (b_4 : List Int) (b_5 : List Int) (K0 : Bool → Option R) : Option R :=
  bi (a == b)
   (bi (a_1 == b_1)
    (bi (a_2 == b_2)
     (bi (a_3 == b_3)
      (l_tutorref01_Same a_4 b_4
       (fun r1 =>
        bi r1
         (l_tutorref01_Same a_5 b_5
          (fun r2 =>
           K0 r2))
         (K0 false)))
      (K0 false))
     (K0 false))
    (K0 false))
   (K0 false)

theorem sameM_eq {R : Type} {k K O N : Int} {nx ou : List Int} (h1 : short nx) (h2 : short ou) (K0 : Bool → Option R) :
    l_tutorref03_Same k K O N nx ou k K O N nx ou K0 = K0 true := by
  unfold l_tutorref03_Same
  rw [br_eq rfl, br_eq rfl, br_eq rfl, br_eq rfl, same_eq h1]
  try dsimp only
  rw [br_pos rfl, same_eq h2]
  simp

/-- tutor/tutorlaw08.live -/
def l_tutorlaw08_live {R : Type}  (K0 : Bool → Option R) : Option R :=
  l_text_Export 1 1 2 2 [1, 0] [0, 1]
   (fun r1 r2 =>
    l_text_Import r2
     (fun r3 r4 r5 r6 r7 r8 r9 r10 =>
      bi (decide (0 < [100, 102, 97, 32, 49, 32, 49, 10, 50, 32, 48, 10].length))
       (l_text_Import [100, 102, 97, 32, 49, 32, 49, 10, 50, 32, 48, 10]
        (fun r11 r12 r13 r14 r15 r16 r17 r18 =>
         bi (decide (0 < [48, 52, 50].length))
          (l_text_Number [48, 52, 50] 0
           (fun r19 r20 r21 =>
            l_tutorlaw08_num r1
             (fun r22 =>
              l_tutorlaw08_num r7
               (fun r23 =>
                bi ((IntKind.i64.wrap (r22 + r23)) == 0)
                 (bi ((ofBts r2).toList == (ByteArray.mk #[100, 102, 97, 32, 49, 32, 50, 10, 48, 32, 49, 10, 49, 32, 48, 10]).toList)
                  (l_tutorref03_Same r3 r4 r5 r6 r9 r10 1 1 2 2 [1, 0] [0, 1]
                   (fun r24 =>
                    bi r24
                     (bi (r8 == 16)
                      (l_tutorlaw08_num r15
                       (fun r25 =>
                        bi (r25 == 33)
                         (bi (r16 == 8)
                          (l_tutorlaw08_num r21
                           (fun r26 =>
                            bi (r26 == 6)
                             (K0 (r20 == 1))
                             (K0 false)))
                          (K0 false))
                         (K0 false)))
                      (K0 false))
                     (K0 false)))
                  (K0 false))
                 (K0 false)))))
          none))
       none))

theorem live08 {R : Type} (K0 : Bool → Option R) : l_tutorlaw08_live K0 = K0 true := by
  unfold l_tutorlaw08_live
  rw [exp_eq (by decide) (by decide), show exportS 1 1 2 2 [1, 0] [0, 1] = ([100, 102, 97, 32, 49, 32, 50, 10, 48, 32, 49, 10, 49, 32, 48, 10], 0) by kernel_rfl]
  try dsimp only
  rw [import_eq, show impS [100, 102, 97, 32, 49, 32, 50, 10, 48, 32, 49, 10, 49, 32, 48, 10] = ⟨1, 1, 2, 2, 0, 16, [1, 0], [0, 1]⟩ by kernel_rfl]
  try dsimp only
  rw [br_pos (by decide), import_eq, show impS [100, 102, 97, 32, 49, 32, 49, 10, 50, 32, 48, 10] = ⟨0, 0, 0, 0, 33, 8, [], []⟩ by kernel_rfl]
  try dsimp only
  rw [br_pos (by decide), number_eq (by unfold short; decide), show numS [48, 52, 50] 0 = (0, 1, 6) by kernel_rfl]
  dsimp only [l_tutorlaw08_num]
  rw [br_eq (by kernel_rfl), show ((ofBts [100, 102, 97, 32, 49, 32, 50, 10, 48, 32, 49, 10, 49, 32, 48, 10]).toList == (ByteArray.mk #[100, 102, 97, 32, 49, 32, 50, 10, 48, 32, 49, 10, 49, 32, 48, 10]).toList) = true by kernel_rfl, br_tt, sameM_eq (by unfold short; decide) (by unfold short; decide)]
  try dsimp only
  rw [br_tt, br_eq rfl, br_eq rfl, br_eq rfl, br_eq rfl]
  kernel_rfl

/-- tutor/tutorref03.Check -/
def s_tutorref03_Check_15 {R : Type} (g36_15 : Int → Int → Int → Int → Int → (List Int) → (List Int) → Option R) (g36_20 : Int → Int → Int → Int → Int → (List Int) → (List Int) → Option R) (K0 : Int → Int → Option R) (i : Int) (o0 : Int) (o0_1 : Int) (o0_2 : Int) (o0_3 : Int) (o0_4 : List Int) (o0_5 : List Int) : Option R :=
  bi (decide (i < (o0_4.length : Int)))
   (bi (decide (0 ≤ i ∧ i < ((o0_4.length : Nat) : Int)))
    (bi (decide ((o0_4.getD i.toNat 0) < 0))
     (K0 i 32)
     (bi (decide (0 ≤ i ∧ i < ((o0_4.length : Nat) : Int)))
      (bi (decide ((o0_4.getD i.toNat 0) ≥ o0_3))
       (K0 i 32)
       (g36_15 (IntKind.i64.wrap (i + 1)) o0 o0_1 o0_2 o0_3 o0_4 o0_5))
      none))
    none)
   (g36_20 0 o0 o0_1 o0_2 o0_3 o0_4 o0_5)

/-- tutor/tutorref03.Check -/
def s_tutorref03_Check_20 {R : Type} (g36_15 : Int → Int → Int → Int → Int → (List Int) → (List Int) → Option R) (g36_20 : Int → Int → Int → Int → Int → (List Int) → (List Int) → Option R) (K0 : Int → Int → Option R) (i : Int) (o0 : Int) (o0_1 : Int) (o0_2 : Int) (o0_3 : Int) (o0_4 : List Int) (o0_5 : List Int) : Option R :=
  bi (decide (i < (o0_5.length : Int)))
   (bi (decide (0 ≤ i ∧ i < ((o0_5.length : Nat) : Int)))
    (bi (decide ((o0_5.getD i.toNat 0) < 0))
     (K0 i 33)
     (bi (decide (0 ≤ i ∧ i < ((o0_5.length : Nat) : Int)))
      (bi (decide ((o0_5.getD i.toNat 0) ≥ o0_2))
       (K0 i 33)
       (g36_20 (IntKind.i64.wrap (i + 1)) o0 o0_1 o0_2 o0_3 o0_4 o0_5))
      none))
    none)
   (K0 0 0)

/-- tutor/tutorref03.Check -/
def e_tutorref03_Check {R : Type} (g36_15 : Int → Int → Int → Int → Int → (List Int) → (List Int) → Option R) (g36_20 : Int → Int → Int → Int → Int → (List Int) → (List Int) → Option R) (K0 : Int → Int → Option R) (m : Int) (m_1 : Int) (m_2 : Int) (m_3 : Int) (m_4 : List Int) (m_5 : List Int) : Option R :=
  bi (m != 1)
   (bi (m != 2)
    (K0 0 30)
    (bi (decide (m_1 < 1))
     (K0 0 1)
     (bi (decide (m_1 > 64))
      (K0 0 1)
      (bi (m == 1)
       (bi (m_2 != 2)
        (K0 0 33)
        (bi (decide (m_2 < 1))
         (K0 0 33)
         (bi (decide (m_2 > 64))
          (K0 0 33)
          (bi (decide (m_3 < 1))
           (K0 0 3)
           (bi (decide (m_3 > 1024))
            (K0 0 3)
            (bi (m == 2)
             (bi ((m_4.length : Int) != (IntKind.i64.wrap (m_3 * m_1)))
              (K0 0 31)
              (bi ((m_5.length : Int) != (IntKind.i64.wrap (m_3 * m_1)))
               (K0 0 31)
               (g36_15 0 m m_1 m_2 m_3 m_4 m_5)))
             (bi ((m_4.length : Int) != (IntKind.i64.wrap (m_3 * m_1)))
              (K0 0 31)
              (bi ((m_5.length : Int) != m_3)
               (K0 0 31)
               (g36_15 0 m m_1 m_2 m_3 m_4 m_5)))))))))
       (bi (decide (m_2 < 1))
        (K0 0 33)
        (bi (decide (m_2 > 64))
         (K0 0 33)
         (bi (decide (m_3 < 1))
          (K0 0 3)
          (bi (decide (m_3 > 1024))
           (K0 0 3)
           (bi (m == 2)
            (bi ((m_4.length : Int) != (IntKind.i64.wrap (m_3 * m_1)))
             (K0 0 31)
             (bi ((m_5.length : Int) != (IntKind.i64.wrap (m_3 * m_1)))
              (K0 0 31)
              (g36_15 0 m m_1 m_2 m_3 m_4 m_5)))
            (bi ((m_4.length : Int) != (IntKind.i64.wrap (m_3 * m_1)))
             (K0 0 31)
             (bi ((m_5.length : Int) != m_3)
              (K0 0 31)
              (g36_15 0 m m_1 m_2 m_3 m_4 m_5))))))))))))
   (bi (decide (m_1 < 1))
    (K0 0 1)
    (bi (decide (m_1 > 64))
     (K0 0 1)
     (bi (m == 1)
      (bi (m_2 != 2)
       (K0 0 33)
       (bi (decide (m_2 < 1))
        (K0 0 33)
        (bi (decide (m_2 > 64))
         (K0 0 33)
         (bi (decide (m_3 < 1))
          (K0 0 3)
          (bi (decide (m_3 > 1024))
           (K0 0 3)
           (bi (m == 2)
            (bi ((m_4.length : Int) != (IntKind.i64.wrap (m_3 * m_1)))
             (K0 0 31)
             (bi ((m_5.length : Int) != (IntKind.i64.wrap (m_3 * m_1)))
              (K0 0 31)
              (g36_15 0 m m_1 m_2 m_3 m_4 m_5)))
            (bi ((m_4.length : Int) != (IntKind.i64.wrap (m_3 * m_1)))
             (K0 0 31)
             (bi ((m_5.length : Int) != m_3)
              (K0 0 31)
              (g36_15 0 m m_1 m_2 m_3 m_4 m_5)))))))))
      (bi (decide (m_2 < 1))
       (K0 0 33)
       (bi (decide (m_2 > 64))
        (K0 0 33)
        (bi (decide (m_3 < 1))
         (K0 0 3)
         (bi (decide (m_3 > 1024))
          (K0 0 3)
          (bi (m == 2)
           (bi ((m_4.length : Int) != (IntKind.i64.wrap (m_3 * m_1)))
            (K0 0 31)
            (bi ((m_5.length : Int) != (IntKind.i64.wrap (m_3 * m_1)))
             (K0 0 31)
             (g36_15 0 m m_1 m_2 m_3 m_4 m_5)))
           (bi ((m_4.length : Int) != (IntKind.i64.wrap (m_3 * m_1)))
            (K0 0 31)
            (bi ((m_5.length : Int) != m_3)
             (K0 0 31)
             (g36_15 0 m m_1 m_2 m_3 m_4 m_5)))))))))))

def run_tutorref03_Check {R : Type} (K0 : Int → Int → Option R) : Nat → (Int → Int → Int → Int → Int → (List Int) → (List Int) → Option R) × (Int → Int → Int → Int → Int → (List Int) → (List Int) → Option R)
  | 0 => (fun _ _ _ _ _ _ _ => none, fun _ _ _ _ _ _ _ => none)
  | n + 1 => (s_tutorref03_Check_15 (run_tutorref03_Check K0 n).1 (run_tutorref03_Check K0 n).2 K0, s_tutorref03_Check_20 (run_tutorref03_Check K0 n).1 (run_tutorref03_Check K0 n).2 K0)

def l_tutorref03_Check {R : Type} (k K O N : Int) (nx ou : List Int) (K0 : Int → Int → Option R) : Option R :=
  bi (decide (short nx ∧ short ou)) (K0 (checkR k K O N nx ou).1 (checkR k K O N nx ou).2) none

theorem checkR_head {R : Type} (g1 g2 : Int → Int → Int → Int → Int → List Int → List Int → Option R) (K0 : Int → Int → Option R) (k K O N : Int) (nx ou : List Int) :
    e_tutorref03_Check g1 g2 K0 k K O N nx ou = if headS k K O N nx ou = 0 then g1 0 k K O N nx ou else K0 0 (headS k K O N nx ou) := by
  have L0 : headS k K O N nx ou = 0 → g1 0 k K O N nx ou = if headS k K O N nx ou = 0 then g1 0 k K O N nx ou else K0 0 (headS k K O N nx ou) := fun h => by rw [if_pos h]
  have LK : ∀ c, headS k K O N nx ou = c → c ≠ 0 → K0 0 c = if headS k K O N nx ou = 0 then g1 0 k K O N nx ou else K0 0 (headS k K O N nx ou) := fun c h h0 => by rw [h, if_neg h0]
  unfold e_tutorref03_Check
  simp only [br_if, bne_iff_ne, beq_iff_eq, decide_eq_true_eq, ne_eq]
  by_cases hb : (1 ≤ N ∧ N ≤ 1024) ∧ 1 ≤ K ∧ K ≤ 64
  · have := mulK hb
    rw [wr (N * K) (by omega) (by omega)]
    repeat' (refine ite_l (fun _ => ?_) (fun _ => ?_))
    all_goals first
      | exact LK _ (by unfold headS; repeat' (refine ite_l (fun _ => ?_) (fun _ => ?_)); all_goals omega) (by omega)
      | exact L0 (by unfold headS; repeat' (refine ite_l (fun _ => ?_) (fun _ => ?_)); all_goals omega)
  · repeat' (refine ite_l (fun _ => ?_) (fun _ => ?_))
    all_goals first
      | exact LK _ (by unfold headS; repeat' (refine ite_l (fun _ => ?_) (fun _ => ?_)); all_goals omega) (by omega)
      | exact L0 (by unfold headS; repeat' (refine ite_l (fun _ => ?_) (fun _ => ?_)); all_goals omega)

theorem ok_tutorref03_Check {R : Type} (k K O N : Int) (nx ou : List Int) (K0 : Int → Int → Option R) {r : R} (h : l_tutorref03_Check k K O N nx ou K0 = some r) :
    ∃ fuel, e_tutorref03_Check (run_tutorref03_Check K0 fuel).1 (run_tutorref03_Check K0 fuel).2 K0 k K O N nx ou = some r := by
  unfold l_tutorref03_Check at h
  rcases bi_some h with ⟨hs, h⟩ | ⟨_, h⟩
  · obtain ⟨h1, h2⟩ : nx.length < 4611686018427387904 ∧ ou.length < 4611686018427387904 := of_decide_eq_true hs
    refine ⟨ou.length + 1 + (nx.length + 1), ?_⟩
    rw [← h, checkR_head]
    unfold checkR
    by_cases hh : headS k K O N nx ou = 0
    · rw [if_pos hh, if_neg (by simpa using hh)]
      have key2 : ∀ n, (run_tutorref03_Check K0 (n + (ou.length + 1))).2 0 k K O N nx ou = match findP (outside O) ou with | some i => K0 (i : Int) 33 | none => K0 0 0 := fun n =>
        scan_all (F := fun m i => (run_tutorref03_Check K0 (n + m)).2 (i : Int) k K O N nx ou) (outside O) (l := ou) (A := fun i => K0 i 33) (B := K0 0 0)
          (fun m => by
            show s_tutorref03_Check_20 (run_tutorref03_Check K0 (n + m)).1 (run_tutorref03_Check K0 (n + m)).2 K0 _ _ _ _ _ _ _ = _
            unfold s_tutorref03_Check_20
            rw [br_neg (by omega)])
          (fun m i hi => by
            show s_tutorref03_Check_20 (run_tutorref03_Check K0 (n + m)).1 (run_tutorref03_Check K0 (n + m)).2 K0 _ _ _ _ _ _ _ = _
            unfold s_tutorref03_Check_20
            rw [br_pos (by omega), br_pos (by omega), br_pos (p := 0 ≤ (i : Int) ∧ (i : Int) < ((ou.length : Nat) : Int)) (by omega), Int.toNat_natCast, getD_of 0 hi, wr _ (by omega) (by omega)]
            unfold outside
            cases decide (ou[i] < 0) <;> cases decide (ou[i] ≥ O) <;> rfl)
      have key1 := scan_all (F := fun m i => (run_tutorref03_Check K0 (ou.length + 1 + m)).1 (i : Int) k K O N nx ou) (outside N) (l := nx) (A := fun i => K0 i 32)
        (B := match findP (outside O) ou with | some i => K0 (i : Int) 33 | none => K0 0 0)
          (fun m => by
            show s_tutorref03_Check_15 (run_tutorref03_Check K0 (ou.length + 1 + m)).1 (run_tutorref03_Check K0 (ou.length + 1 + m)).2 K0 _ _ _ _ _ _ _ = _
            unfold s_tutorref03_Check_15
            rw [br_neg (by omega)]
            have := key2 m
            rwa [show m + (ou.length + 1) = ou.length + 1 + m by omega] at this)
          (fun m i hi => by
            show s_tutorref03_Check_15 (run_tutorref03_Check K0 (ou.length + 1 + m)).1 (run_tutorref03_Check K0 (ou.length + 1 + m)).2 K0 _ _ _ _ _ _ _ = _
            unfold s_tutorref03_Check_15
            rw [br_pos (by omega), br_pos (by omega), br_pos (p := 0 ≤ (i : Int) ∧ (i : Int) < ((nx.length : Nat) : Int)) (by omega), Int.toNat_natCast, getD_of 0 hi, wr _ (by omega) (by omega)]
            unfold outside
            cases decide (nx[i] < 0) <;> cases decide (nx[i] ≥ N) <;> rfl)
      refine key1.trans ?_
      cases findP (outside N) nx with
      | some i => rfl
      | none => cases findP (outside O) ou <;> rfl
    · rw [if_neg hh, if_pos (by simpa using hh)]
  · cases h

/-- tutor/tutorref03.Right -/
def l_tutorref03_Right {R : Type} (m : Int) (m_1 : Int) (m_2 : Int) (m_3 : Int) (m_4 : List Int) (m_5 : List Int) (K0 : Bool → Option R) : Option R :=
  l_tutorref03_Check m m_1 m_2 m_3 m_4 m_5
   (fun r1 r2 =>
    K0 (r2 == 0))

theorem right_eq {R : Type} {k K O N : Int} {nx ou : List Int} (h1 : short nx) (h2 : short ou) (K0 : Bool → Option R) : l_tutorref03_Right k K O N nx ou K0 = K0 ((checkR k K O N nx ou).2 == 0) := by
  unfold l_tutorref03_Right l_tutorref03_Check
  rw [br_pos ⟨h1, h2⟩]

/-- tutor/tutorref08.Same -/
def l_tutorref08_Same {R : Type} (a : List Int) (b : List Int) (K0 : Bool → Option R) : Option R :=
  K0 ((ofBts a).toList == (ofBts b).toList)

theorem sameB_eq {R : Type} (a : List Int) (K0 : Bool → Option R) : l_tutorref08_Same a a K0 = K0 true := by
  unfold l_tutorref08_Same
  rw [beq_self_eq_true]


/-- tutor/tutorlaw08.TextThere -/
def l_tutorlaw08_TextThere {R : Type} (b : List Int) (K0 : Bool → Option R) : Option R :=
  bi (decide ((b.length : Int) > 20000))
   (l_tutorlaw08_live
    (fun r1 =>
     K0 r1))
   (l_text_Import b
    (fun r2 r3 r4 r5 r6 r7 r8 r9 =>
     l_tutorlaw08_num r6
      (fun r10 =>
       bi (r10 != 0)
        (l_tutorref03_Same r2 r3 r4 r5 r8 r9 0 0 0 0 ([] : List Int) ([] : List Int)
         (fun r11 =>
          bi r11
           (bi (decide (r7 ≥ 0))
            (bi (decide (r7 ≤ (b.length : Int)))
             (l_tutorlaw08_live
              (fun r12 =>
               K0 r12))
             (K0 false))
            (K0 false))
           (K0 false)))
        (l_text_Export r2 r3 r4 r5 r8 r9
         (fun r13 r14 =>
          l_tutorref03_Right r2 r3 r4 r5 r8 r9
           (fun r15 =>
            bi r15
             (bi (r7 == (b.length : Int))
              (l_tutorlaw08_num r13
               (fun r16 =>
                bi (r16 == 0)
                 (l_tutorref08_Same r14 b
                  (fun r17 =>
                   bi r17
                    (l_tutorlaw08_live
                     (fun r18 =>
                      K0 r18))
                    (K0 false)))
                 (K0 false)))
              (K0 false))
             (K0 false)))))))

theorem law_tutorlaw08_TextThere {R : Type} (b : List Int) (K0 : Bool → Option R) (hb : b.length ≤ 140737488351232 ∧ ∀ x ∈ b, (Lit.int .u8 x).wf = true) : l_tutorlaw08_TextThere b K0 = K0 true := by
  unfold l_tutorlaw08_TextThere
  by_cases h : (b.length : Int) > 20000
  · rw [br_pos h, live08]
  · rw [br_neg h, import_eq]
    try dsimp only [l_tutorlaw08_num]
    unfold impS
    rw [if_neg (show ¬ (b.length : Int) > 16777216 by omega)]
    have hf := flt_read b
    cases hr : readS b with
    | inl e =>
      obtain ⟨f1, f2, f3⟩ := hf e hr
      try dsimp only
      rw [br_ne f1, sameM_eq (by unfold short; decide) (by unfold short; decide)]
      try dsimp only
      rw [br_tt, br_pos (by omega), br_pos f3, live08]
    | inr m =>
      obtain ⟨F, e⟩ := read_there hr
      try dsimp only
      have fK := F.fK
      have fN := F.fN
      have fO := F.fO
      have l1 : m.2.2.2.2.1.length ≤ 70000 ∧ m.2.2.2.2.2.length ≤ 70000 := by
        have h2 : m.2.2.2.1 * m.2.1 ≤ 65536 := by
          have := Int.mul_le_mul (a := m.2.2.2.1) (b := m.2.1) (c := 1024) (d := 64) (by omega) (by omega) (by omega) (by omega)
          omega
        have := F.fnx
        rcases F.fk with c | c
        · have := F.fou1 c
          omega
        · have := F.fou2 c
          omega
      have o1 : okL m.2.2.2.2.1 := ⟨by unfold short; omega, fun x hx => by have := F.fnxs x hx; exact ⟨by omega, by omega⟩⟩
      have o2 : okL m.2.2.2.2.2 := ⟨by unfold short; omega, fun x hx => by have := F.fous x hx; exact ⟨by omega, by omega⟩⟩
      have hc := checkR_fine.2 F
      rw [br_ne' rfl, exp_eq o1 o2, right_eq o1.1 o2.1]
      try dsimp only
      unfold exportS
      rw [if_neg (by simpa using hc), hc, e]
      try dsimp only
      rw [show ((0 : Int) == 0) = true from rfl, br_tt, br_eq rfl, br_tt, sameB_eq]
      try dsimp only
      rw [br_tt, live08]

end
end Go.Ev
