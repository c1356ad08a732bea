/- Functions of the program, as trees of tests over numbers and lists; no program in sight. -/
import Derived.Test.YtbgggblbkknaoaaDoorEvMach
import Derived.Test.YtbgggblbkknaoaaDoorEvWord
import Derived.Test.YtbgggblbkknaoaaDoorEvNum
import Derived.Test.YtbgggblbkknaoaaDoorEvTeach
import Derived.Test.YtbgggblbkknaoaaDoorEvText
import Derived.Test.YtbgggblbkknaoaaDoorEvImp
import Derived.Test.YtbgggblbkknaoaaDoorEvBack
import Derived.Test.YtbgggblbkknaoaaDoorEvBfs
import Derived.Test.YtbgggblbkknaoaaDoorEvBfs2
import Derived.Test.YtbgggblbkknaoaaDoorEvBfs3
import Derived.Test.YtbgggblbkknaoaaDoorEvMoore
import Derived.Test.YtbgggblbkknaoaaDoorEvCanon
import Derived.Test.YtbgggblbkknaoaaDoorEvSep
namespace Go.Ev
noncomputable section
set_option linter.unusedVariables false
set_option linter.unusedSimpArgs false
set_option maxRecDepth 100000
set_option maxHeartbeats 4000000

abbrev LT_tutorref03_Big := {R : Type} → Int → Int → Int → Int → (List Int) → (List Int) → Int → (Bool → Option R) → Option R
/-- tutor/tutorref03.Big -/
def l_tutorref03_Big {R : Type} (m m_1 m_2 m_3 : Int) (m_4 m_5 : List Int) (states : Int) (K0 : Bool → Option R) : Option R :=
  bi (decide (m_3 > states))
   (K0 true)
   (bi (decide ((m_4.length : Int) > 70000))
    (K0 true)
    (K0 (decide ((m_5.length : Int) > 70000))))

theorem big_cases {R : Type} (k K O N : Int) (nx ou : List Int) (states : Int) (K0 : Bool → Option R) :
    (l_tutorref03_Big k K O N nx ou states K0 = K0 true) ∨ (N ≤ states ∧ nx.length ≤ 70000 ∧ ou.length ≤ 70000 ∧ l_tutorref03_Big k K O N nx ou states K0 = K0 false) := by
  unfold l_tutorref03_Big
  by_cases h1 : N > states
  · exact .inl (by rw [br_pos h1])
  rw [br_neg h1]
  by_cases h2 : (nx.length : Int) > 70000
  · exact .inl (by rw [br_pos h2])
  rw [br_neg h2]
  by_cases h3 : (ou.length : Int) > 70000
  · exact .inl (by rw [decide_eq_true h3])
  · exact .inr ⟨by omega, by omega, by omega, by rw [decide_eq_false h3]⟩

abbrev LT_machine_says := {R : Type} → Int → Int → Int → Int → (List Int) → (List Int) → (Int → Option R) → Option R
/-- tutor/machine.says -/
def l_machine_says {R : Type} (m m_1 m_2 m_3 : Int) (m_4 m_5 : List Int) (K0 : Int → Option R) : Option R :=
  bi (m == 1)
   (K0 m_3)
   (K0 (IntKind.i64.wrap (m_3 * m_1)))

abbrev LT_machine_head := {R : Type} → Int → Int → Int → Int → (List Int) → (List Int) → (Int → Option R) → Option R
/-- tutor/machine.head -/
def l_machine_head {R : Type} (m m_1 m_2 m_3 : Int) (m_4 m_5 : List Int) (K0 : Int → Option R) : Option R :=
  bi (m != 1)
   (bi (m != 2)
    (K0 30)
    (bi (decide (m_1 < 1))
     (K0 1)
     (bi (decide (m_1 > 64))
      (K0 1)
      (bi (m == 1)
       (bi (m_2 != 2)
        (K0 33)
        (bi (decide (m_2 < 1))
         (K0 33)
         (bi (decide (m_2 > 64))
          (K0 33)
          (bi (decide (m_3 < 1))
           (K0 3)
           (bi (decide (m_3 > 1024))
            (K0 3)
            (bi ((m_4.length : Int) != (IntKind.i64.wrap (m_3 * m_1)))
             (K0 31)
             (l_machine_says m m_1 m_2 m_3 m_4 m_5
              (fun r1 =>
               bi ((m_5.length : Int) != r1)
                (K0 31)
                (K0 0)))))))))
       (bi (decide (m_2 < 1))
        (K0 33)
        (bi (decide (m_2 > 64))
         (K0 33)
         (bi (decide (m_3 < 1))
          (K0 3)
          (bi (decide (m_3 > 1024))
           (K0 3)
           (bi ((m_4.length : Int) != (IntKind.i64.wrap (m_3 * m_1)))
            (K0 31)
            (l_machine_says m m_1 m_2 m_3 m_4 m_5
             (fun r2 =>
              bi ((m_5.length : Int) != r2)
               (K0 31)
               (K0 0))))))))))))
   (bi (decide (m_1 < 1))
    (K0 1)
    (bi (decide (m_1 > 64))
     (K0 1)
     (bi (m == 1)
      (bi (m_2 != 2)
       (K0 33)
       (bi (decide (m_2 < 1))
        (K0 33)
        (bi (decide (m_2 > 64))
         (K0 33)
         (bi (decide (m_3 < 1))
          (K0 3)
          (bi (decide (m_3 > 1024))
           (K0 3)
           (bi ((m_4.length : Int) != (IntKind.i64.wrap (m_3 * m_1)))
            (K0 31)
            (l_machine_says m m_1 m_2 m_3 m_4 m_5
             (fun r3 =>
              bi ((m_5.length : Int) != r3)
               (K0 31)
               (K0 0)))))))))
      (bi (decide (m_2 < 1))
       (K0 33)
       (bi (decide (m_2 > 64))
        (K0 33)
        (bi (decide (m_3 < 1))
         (K0 3)
         (bi (decide (m_3 > 1024))
          (K0 3)
          (bi ((m_4.length : Int) != (IntKind.i64.wrap (m_3 * m_1)))
           (K0 31)
           (l_machine_says m m_1 m_2 m_3 m_4 m_5
            (fun r4 =>
             bi ((m_5.length : Int) != r4)
              (K0 31)
              (K0 0)))))))))))

theorem head_eq {R : Type} (k K O N : Int) (nx ou : List Int) (K0 : Int → Option R) : l_machine_head k K O N nx ou K0 = K0 (headS k K O N nx ou) := by
  unfold l_machine_head l_machine_says headS
  simp only [br_if, bne_iff_ne, beq_iff_eq, decide_eq_true_eq, ne_eq]
  by_cases hb : (1 ≤ N ∧ N ≤ 1024) ∧ 1 ≤ K ∧ K ≤ 64
  · have := mulK hb
    rw [wr (N * K) (by omega) (by omega)]
    repeat' (refine ite_l (fun _ => ?_) (fun _ => ?_))
    all_goals
      refine congrArg K0 ?_
      repeat' (refine ite_r (fun _ => ?_) (fun _ => ?_))
      all_goals omega
  · repeat' (refine ite_l (fun _ => ?_) (fun _ => ?_))
    all_goals
      refine congrArg K0 ?_
      repeat' (refine ite_r (fun _ => ?_) (fun _ => ?_))
      all_goals omega

abbrev LT_machine_beyond := {R : Type} → (List Int) → Int → (Int → Option R) → Option R
abbrev GT_machine_beyond_2 (R : Type) := (List Int) → Int → Int → Int → Option R
/-- tutor/machine.beyond -/
def s_machine_beyond_2 {R : Type} (g46_2 : GT_machine_beyond_2 R) (K0 : Int → Option R) (l : List Int) (n x7 x8 : Int) : Option R :=
  bi (decide (x8 < x7))
   (bi (decide (0 ≤ x8 ∧ x8 < ((l.length : Nat) : Int)))
    (bi (decide ((IntKind.u64.wrap (l.getD x8.toNat 0)) ≥ (IntKind.u64.wrap n)))
     (K0 x8)
     (g46_2 l n x7 (IntKind.i64.wrap (x8 + 1))))
    none)
   (K0 (-1))

/-- tutor/machine.beyond -/
def e_machine_beyond {R : Type} (g46_2 : GT_machine_beyond_2 R) (K0 : Int → Option R) (l : List Int) (n : Int) : Option R :=
  g46_2 l n (l.length : Int) 0

def run_machine_beyond {R : Type} (K0 : Int → Option R) : Nat → (List Int) → Int → Int → Int → Option R
  | 0 => fun _ _ _ _ => none
  | n + 1 => s_machine_beyond_2 (run_machine_beyond K0 n) K0

def l_machine_beyond {R : Type} (l : List Int) (n : Int) (K0 : Int → Option R) : Option R := bi (decide (short l)) (K0 (beyondS n l)) none

theorem ok_machine_beyond {R : Type} (l : List Int) (n : Int) (K0 : Int → Option R) {r : R} (h : l_machine_beyond l n K0 = some r) : ∃ fuel, e_machine_beyond (run_machine_beyond K0 fuel) K0 l n = some r := by
  unfold l_machine_beyond at h
  rcases bi_some h with ⟨hs, h⟩ | ⟨_, h⟩
  · have hs : l.length < 4611686018427387904 := of_decide_eq_true hs
    refine ⟨l.length + 1, ?_⟩
    rw [← h]
    have key := scan_all (F := fun m i => run_machine_beyond K0 m l n (l.length : Int) (i : Int)) (bad n) (l := l) (A := fun i => K0 i) (B := K0 (-1))
      (fun m => by
        show s_machine_beyond_2 _ _ _ _ _ _ = _
        unfold s_machine_beyond_2
        rw [br_neg (by omega)])
      (fun m i hi => by
        show s_machine_beyond_2 _ _ _ _ _ _ = _
        unfold s_machine_beyond_2
        rw [br_pos (by omega), br_pos (by omega), br_if, Int.toNat_natCast, getD_of 0 hi, wr _ (by omega) (by omega)]
        rfl)
    unfold e_machine_beyond beyondS
    refine key.trans ?_
    cases findP (bad n) l <;> rfl
  · cases h

abbrev LT_machine_Check := {R : Type} → Int → Int → Int → Int → (List Int) → (List Int) → (Int → Int → Option R) → Option R
/-- tutor/machine.Check -/
def l_machine_Check {R : Type} (m m_1 m_2 m_3 : Int) (m_4 m_5 : List Int) (K0 : Int → Int → Option R) : Option R :=
  l_machine_head m m_1 m_2 m_3 m_4 m_5
   (fun r1 =>
    bi (r1 != 0)
     (K0 0 r1)
     (l_machine_beyond m_4 m_3
      (fun r2 =>
       bi (decide (r2 ≥ 0))
        (K0 r2 32)
        (l_machine_beyond m_5 m_2
         (fun r3 =>
          bi (decide (r3 ≥ 0))
           (K0 r3 33)
           (K0 0 0))))))

theorem check_eq {R : Type} (k K O N : Int) (nx ou : List Int) (h1 : short nx) (h2 : short ou) (K0 : Int → Int → Option R) :
    l_machine_Check k K O N nx ou K0 = K0 (checkS k K O N nx ou).1 (checkS k K O N nx ou).2 := by
  unfold l_machine_Check checkS l_machine_beyond beyondS
  rw [head_eq]
  by_cases h : headS k K O N nx ou = 0
  · rw [br_ne' h, if_neg (by simpa using h), br_pos h1]
    cases hf : findP (bad N) nx with
    | some i => simp only [br_pos (show ((i : Nat) : Int) ≥ 0 by omega)]
    | none =>
      simp only [br_neg (show ¬ ((-1 : Int) ≥ 0) by omega), br_pos h2]
      cases hg : findP (bad O) ou with
      | some i => simp only [br_pos (show ((i : Nat) : Int) ≥ 0 by omega)]
      | none => simp only [br_neg (show ¬ ((-1 : Int) ≥ 0) by omega)]
  · rw [br_ne h, if_pos (by simpa using h)]

abbrev LT_text_Export := {R : Type} → Int → Int → Int → Int → (List Int) → (List Int) → (Int → (List Int) → Option R) → Option R
/-- text.Export -/
def l_text_Export {R : Type} (m m_1 m_2 m_3 : Int) (m_4 m_5 : List Int) (K0 : Int → List Int → Option R) : Option R := l_Export m m_1 m_2 m_3 m_4 m_5 (fun xs e => K0 e xs)

theorem exp_eq {R : Type} {m m_1 m_2 m_3 : Int} {m_4 m_5 : List Int} (h1 : okL m_4) (h2 : okL m_5) (K0 : Int → List Int → Option R) :
    l_text_Export m m_1 m_2 m_3 m_4 m_5 K0 = K0 (exportS m m_1 m_2 m_3 m_4 m_5).2 (exportS m m_1 m_2 m_3 m_4 m_5).1 := export_eq h1 h2 _

abbrev LT_text_reader_want_none := {R : Type} → ByteArray → (List Int) → Int → ((List Int) → Int → Int → Int → Option R) → ((List Int) → Int → Option R) → Option R
abbrev GT_text_reader_want_none_1 (R : Type) := ByteArray → Int → (List Int) → Int → Option R
/-- (*tutor/text.reader).want -/
def s_text_reader_want_none_1 {R : Type} (g50_1 : GT_text_reader_want_none_1 R) (K0 : (List Int) → Int → Int → Int → Option R) (K1 : (List Int) → Int → Option R) (s : ByteArray) (i : Int) (o0 : List Int) (o0_1 : Int) : Option R :=
  bi (decide (i < (s.size : Int)))
   (bi (o0_1 == (o0.length : Int))
    (K0 o0 o0_1 6 o0_1)
    (bi (decide (0 ≤ o0_1 ∧ o0_1 < ((o0.length : Nat) : Int)))
     (bi (decide (0 ≤ i ∧ i < ((s.size : Nat) : Int)))
      (bi ((o0.getD o0_1.toNat 0) != ((s.data.toList.getD i.toNat 0).toNat : Int))
       (K0 o0 o0_1 6 o0_1)
       (g50_1 s (IntKind.i64.wrap (i + 1)) o0 (IntKind.i64.wrap (o0_1 + 1))))
      none)
     none))
   (K1 o0 o0_1)

/-- (*tutor/text.reader).want -/
def e_text_reader_want_none {R : Type} (g50_1 : GT_text_reader_want_none_1 R) (K0 : (List Int) → Int → Int → Int → Option R) (K1 : (List Int) → Int → Option R) (s : ByteArray) (o0 : List Int) (o0_1 : Int) : Option R :=
  g50_1 s 0 o0 o0_1

def run_text_reader_want_none {R : Type} (K0 : (List Int) → Int → Int → Int → Option R) (K1 : (List Int) → Int → Option R) : Nat → ByteArray → Int → (List Int) → Int → Option R
  | 0 => fun _ _ _ _ => none
  | n + 1 => s_text_reader_want_none_1 (run_text_reader_want_none K0 K1 n) K0 K1

def l_text_reader_want_none {R : Type} (s : ByteArray) (o0 : List Int) (o0_1 : Int) (K0 : (List Int) → Int → Int → Int → Option R) (K1 : (List Int) → Int → Option R) : Option R := evl fun fuel => e_text_reader_want_none (run_text_reader_want_none K0 K1 fuel) K0 K1 s o0 o0_1

theorem ok_text_reader_want_none {R : Type} (s : ByteArray) (o0 : List Int) (o0_1 : Int) (K0 : (List Int) → Int → Int → Int → Option R) (K1 : (List Int) → Int → Option R) {r : R} (h : l_text_reader_want_none s o0 o0_1 K0 K1 = some r) : ∃ fuel, e_text_reader_want_none (run_text_reader_want_none K0 K1 fuel) K0 K1 s o0 o0_1 = some r := evl_ok h

theorem want_run {R : Type} {b : List Int} (hs : short b) (s : ByteArray) (hz : s.size ≤ 1000) (K0 : List Int → Int → Int → Int → Option R) (K1 : List Int → Int → Option R) :
    ∀ (d i a : Nat), i + d = s.size → a ≤ b.length →
      Reach (fun m => run_text_reader_want_none K0 K1 m s (i : Int) b (a : Int)) (match wantS ((bts s).drop i) b a with | .inl e => K0 b e.2 e.1 e.2 | .inr c => K1 b (c : Int)) := by
  have hl : (bts s).length = s.size := by simp [bts]
  unfold short at hs
  intro d
  induction d with
  | zero =>
    intro i a hi ha
    refine .now fun m => ?_
    rw [show run_text_reader_want_none K0 K1 (m + 1) = s_text_reader_want_none_1 (run_text_reader_want_none K0 K1 m) K0 K1 from rfl]
    unfold s_text_reader_want_none_1
    rw [br_neg (by omega), List.drop_of_length_le (by omega)]
    rfl
  | succ d ih =>
    intro i a hi ha
    have hlt : i < (bts s).length := by omega
    have hget : (bts s)[i] = ((s.data.toList.getD i 0).toNat : Int) := by
      simp [bts, List.getD_eq_getElem?_getD, List.getElem?_eq_getElem (show i < s.data.toList.length by simpa [bts] using hlt)]
    rw [List.drop_eq_getElem_cons hlt, hget]
    unfold wantS
    by_cases h1 : a = b.length
    · refine .now fun m => ?_
      rw [show run_text_reader_want_none K0 K1 (m + 1) = s_text_reader_want_none_1 (run_text_reader_want_none K0 K1 m) K0 K1 from rfl]
      unfold s_text_reader_want_none_1
      rw [br_pos (by omega), br_eq (by omega), if_neg (by rw [List.getElem?_eq_none (by omega)]; simp)]
    · have hab : a < b.length := by omega
      by_cases h2 : b[a] = ((s.data.toList.getD i 0).toNat : Int)
      · rw [if_pos (by rw [List.getElem?_eq_getElem hab, h2])]
        refine .step (fun m => ?_) (ih (i + 1) (a + 1) (by omega) (by omega))
        rw [show run_text_reader_want_none K0 K1 (m + 1) = s_text_reader_want_none_1 (run_text_reader_want_none K0 K1 m) K0 K1 from rfl]
        unfold s_text_reader_want_none_1
        rw [br_pos (by omega), br_eq' (by omega), br_pos (by omega), br_pos (by omega), Int.toNat_natCast, Int.toNat_natCast, getD_of 0 hab, br_ne' h2, wr ((i : Int) + 1) (by omega) (by omega), wr ((a : Int) + 1) (by omega) (by omega)]
        rfl
      · rw [if_neg (by rw [List.getElem?_eq_getElem hab]; simpa using h2)]
        refine .now fun m => ?_
        rw [show run_text_reader_want_none K0 K1 (m + 1) = s_text_reader_want_none_1 (run_text_reader_want_none K0 K1 m) K0 K1 from rfl]
        unfold s_text_reader_want_none_1
        rw [br_pos (by omega), br_eq' (by omega), br_pos (by omega), br_pos (by omega), Int.toNat_natCast, Int.toNat_natCast, getD_of 0 hab, br_ne h2]

theorem want_ok {R : Type} {b : List Int} (hs : short b) {s : ByteArray} (hz : s.size ≤ 1000) {a c : Nat} (ha : a ≤ b.length) (h : wantS (bts s) b a = .inr c) (K0 : List Int → Int → Int → Int → Option R) (K1 : List Int → Int → Option R) :
    l_text_reader_want_none s b (a : Int) K0 K1 = K1 b (c : Int) := by
  refine evl_eq (Reach.of_eq (want_run hs s hz K0 K1 s.size 0 a (by omega) ha) ?_)
  rw [List.drop_zero, h]

theorem want_bad {R : Type} {b : List Int} (hs : short b) {s : ByteArray} (hz : s.size ≤ 1000) {a : Nat} {e : Int × Int} (ha : a ≤ b.length) (h : wantS (bts s) b a = .inl e) (K0 : List Int → Int → Int → Int → Option R) (K1 : List Int → Int → Option R) :
    l_text_reader_want_none s b (a : Int) K0 K1 = K0 b e.2 e.1 e.2 := by
  refine evl_eq (Reach.of_eq (want_run hs s hz K0 K1 s.size 0 a (by omega) ha) ?_)
  rw [List.drop_zero, h]

abbrev LT_text_reader_number_fault := {R : Type} → Int → Int → Int → (List Int) → Int → Int → Int → (Int → (List Int) → Int → Int → Int → Option R) → Option R
/-- (*tutor/text.reader).number -/
def l_text_reader_number_fault {R : Type} (low high kind : Int) (o0 : List Int) (o0_1 o1 o1_1 : Int) (K0 : Int → (List Int) → Int → Int → Int → Option R) : Option R :=
  K0 0 o0 o0_1 o1 o1_1

theorem numf_eq {R : Type} (lo hi kd : Int) (b : List Int) (a k p : Int) (K0 : Int → List Int → Int → Int → Int → Option R) : l_text_reader_number_fault lo hi kd b a k p K0 = K0 0 b a k p := rfl

abbrev LT_text_reader_want_fault := {R : Type} → ByteArray → (List Int) → Int → Int → Int → ((List Int) → Int → Int → Int → Option R) → Option R
abbrev GT_text_reader_want_fault_1 (R : Type) := ByteArray → Int → (List Int) → Int → Int → Int → Option R
/-- (*tutor/text.reader).want -/
def s_text_reader_want_fault_1 {R : Type} (g50b_1 : GT_text_reader_want_fault_1 R) (K0 : (List Int) → Int → Int → Int → Option R) (s : ByteArray) (i : Int) (o0 : List Int) (o0_1 o1 o1_1 : Int) : Option R :=
  bi (decide (i < (s.size : Int)))
   (K0 o0 o0_1 o1 o1_1)
   (K0 o0 o0_1 o1 o1_1)

/-- (*tutor/text.reader).want -/
def e_text_reader_want_fault {R : Type} (g50b_1 : GT_text_reader_want_fault_1 R) (K0 : (List Int) → Int → Int → Int → Option R) (s : ByteArray) (o0 : List Int) (o0_1 o1 o1_1 : Int) : Option R :=
  g50b_1 s 0 o0 o0_1 o1 o1_1

def run_text_reader_want_fault {R : Type} (K0 : (List Int) → Int → Int → Int → Option R) : Nat → ByteArray → Int → (List Int) → Int → Int → Int → Option R
  | 0 => fun _ _ _ _ _ _ => none
  | n + 1 => s_text_reader_want_fault_1 (run_text_reader_want_fault K0 n) K0

def l_text_reader_want_fault {R : Type} (s : ByteArray) (o0 : List Int) (o0_1 o1 o1_1 : Int) (K0 : (List Int) → Int → Int → Int → Option R) : Option R := evl fun fuel => e_text_reader_want_fault (run_text_reader_want_fault K0 fuel) K0 s o0 o0_1 o1 o1_1

theorem ok_text_reader_want_fault {R : Type} (s : ByteArray) (o0 : List Int) (o0_1 o1 o1_1 : Int) (K0 : (List Int) → Int → Int → Int → Option R) {r : R} (h : l_text_reader_want_fault s o0 o0_1 o1 o1_1 K0 = some r) : ∃ fuel, e_text_reader_want_fault (run_text_reader_want_fault K0 fuel) K0 s o0 o0_1 o1 o1_1 = some r := evl_ok h

theorem wantf_eq {R : Type} (s : ByteArray) (b : List Int) (a k p : Int) (K0 : List Int → Int → Int → Int → Option R) : l_text_reader_want_fault s b a k p K0 = K0 b a k p := by
  refine evl_eq (.now fun m => ?_)
  unfold e_text_reader_want_fault
  rw [show run_text_reader_want_fault K0 (m + 1) = s_text_reader_want_fault_1 (run_text_reader_want_fault K0 m) K0 from rfl]
  unfold s_text_reader_want_fault_1
  exact br_same _

abbrev LT_text_Number := {R : Type} → (List Int) → Int → (Int → Int → Int → Option R) → Option R
abbrev GT_text_Number_4 (R : Type) := (List Int) → Int → Int → Int → Option R
/-- tutor/text.Number -/
def s_text_Number_4 {R : Type} (g21_4 : GT_text_Number_4 R) (K0 : Int → Int → Int → Option R) (b : List Int) (vat n i : Int) : Option R :=
  bi (decide (i < (b.length : Int)))
   (bi (decide (0 ≤ i ∧ i < ((b.length : Nat) : Int)))
    (bi (decide ((b.getD i.toNat 0) ≥ 48))
     (bi (decide (0 ≤ i ∧ i < ((b.length : Nat) : Int)))
      (bi (decide ((b.getD i.toNat 0) ≤ 57))
       (bi ((IntKind.i64.wrap (i - vat)) == 4)
        (K0 0 i 6)
        (bi ((IntKind.i64.wrap (i - vat)) == 1)
         (bi (decide (0 ≤ vat ∧ vat < ((b.length : Nat) : Int)))
          (bi ((b.getD vat.toNat 0) == 48)
           (K0 0 i 6)
           (bi (decide (0 ≤ i ∧ i < ((b.length : Nat) : Int)))
            (g21_4 b vat (IntKind.i64.wrap ((IntKind.i64.wrap (10 * n)) + (IntKind.i64.wrap (IntKind.u8.wrap ((b.getD i.toNat 0) - 48))))) (IntKind.i64.wrap (i + 1)))
            none))
          none)
         (bi (decide (0 ≤ i ∧ i < ((b.length : Nat) : Int)))
          (g21_4 b vat (IntKind.i64.wrap ((IntKind.i64.wrap (10 * n)) + (IntKind.i64.wrap (IntKind.u8.wrap ((b.getD i.toNat 0) - 48))))) (IntKind.i64.wrap (i + 1)))
          none)))
       (bi (i == vat)
        (K0 0 vat 6)
        (K0 n i 0)))
      none)
     (bi (i == vat)
      (K0 0 vat 6)
      (K0 n i 0)))
    none)
   (bi (i == vat)
    (K0 0 vat 6)
    (K0 n i 0))

/-- tutor/text.Number -/
def e_text_Number {R : Type} (g21_4 : GT_text_Number_4 R) (K0 : Int → Int → Int → Option R) (b : List Int) (vat : Int) : Option R :=
  bi (decide (vat < 0))
   (K0 0 0 1)
   (bi (decide (vat > (b.length : Int)))
    (K0 0 0 1)
    (g21_4 b vat 0 vat))

def run_text_Number {R : Type} (K0 : Int → Int → Int → Option R) : Nat → (List Int) → Int → Int → Int → Option R
  | 0 => fun _ _ _ _ => none
  | n + 1 => s_text_Number_4 (run_text_Number K0 n) K0

def l_text_Number {R : Type} (b : List Int) (vat : Int) (K0 : Int → Int → Int → Option R) : Option R := bi (decide (short b)) (K0 (numS b vat).1 (numS b vat).2.1 (numS b vat).2.2) none

theorem number_run {R : Type} {b : List Int} (hs : short b) {a : Nat} (ha : a ≤ b.length) (K0 : Int → Int → Int → Option R) :
    ∀ (d i k : Nat) (z : Bool) (n : Int), i + d = b.length → i = a + k → k ≤ 4 → 0 ≤ n → n < 10 ^ k → (0 < k → z = decide (b.getD a 0 = 48)) →
      Reach (fun m => run_text_Number K0 m b (a : Int) n (i : Int)) (K0 (numR (b.drop i) k z n).1 ((a : Int) + (numR (b.drop i) k z n).2.1) (numR (b.drop i) k z n).2.2) := by
  unfold short at hs
  intro d
  induction d with
  | zero =>
    intro i k z n hi hk hk4 hn0 hn1 hz
    refine .now fun m => ?_
    rw [show run_text_Number K0 (m + 1) = s_text_Number_4 (run_text_Number K0 m) K0 from rfl]
    unfold s_text_Number_4
    rw [br_neg (by omega), List.drop_of_length_le (by omega)]
    simp only [numR]
    by_cases c : k = 0
    · rw [if_pos c, br_eq (by omega)]
      simp
    · rw [if_neg c, br_eq' (by omega)]
      dsimp only
      congr 1
      omega
  | succ d ih =>
    intro i k z n hi hk hk4 hn0 hn1 hz
    have h1 : i < b.length := by omega
    have n4 : n < 10000 := by
      have : (10 : Int) ^ k ≤ 10 ^ 4 := by
        have : (10 : Nat) ^ k ≤ 10 ^ 4 := Nat.pow_le_pow_right (by decide) hk4
        exact_mod_cast this
      omega
    rw [List.drop_eq_getElem_cons h1]
    simp only [numR]
    have stop : ∀ m : Nat, (bi ((i : Int) == (a : Int)) (K0 0 (a : Int) 6) (K0 n (i : Int) 0)) = K0 (if k = 0 then ((0 : Int), 0, (6 : Int)) else (n, k, 0)).1 ((a : Int) + (if k = 0 then ((0 : Int), 0, (6 : Int)) else (n, k, 0)).2.1) (if k = 0 then ((0 : Int), 0, (6 : Int)) else (n, k, 0)).2.2 := by
      intro _
      by_cases c : k = 0
      · rw [if_pos c, br_eq (by omega)]
        simp
      · rw [if_neg c, br_eq' (by omega)]
        dsimp only
        congr 1
        omega
    by_cases c1 : isDig b[i]
    · rw [if_pos c1]
      have c1' := c1
      unfold isDig at c1'
      by_cases c2 : k = 4 ∨ (k = 1 ∧ z = true)
      · rw [if_pos c2]
        refine .now fun m => ?_
        rw [show run_text_Number K0 (m + 1) = s_text_Number_4 (run_text_Number K0 m) K0 from rfl]
        unfold s_text_Number_4
        rw [br_pos (by omega), br_pos (by omega), Int.toNat_natCast, getD_of 0 h1, br_pos (by omega), br_pos (by omega), br_pos (by omega), wr ((i : Int) - a) (by omega) (by omega)]
        rcases c2 with c2 | ⟨c2, c3⟩
        · rw [br_eq (by omega)]
          dsimp only
          congr 1
          omega
        · have hz := hz (by omega)
          rw [c3] at hz
          have hz := of_decide_eq_true hz.symm
          rw [br_eq' (by omega), br_eq (by omega), br_pos (by omega), Int.toNat_natCast, hz, br_eq rfl]
          dsimp only
          congr 1
          omega
      · rw [if_neg c2]
        have hp : (10 : Int) ^ (k + 1) = 10 ^ k * 10 := Int.pow_succ 10 k
        refine .step (fun m => ?_) (ih (i + 1) (k + 1) _ (10 * n + (b[i] - 48)) (by omega) (by omega) (by omega) (by omega) (by omega) ?_)
        · rw [show run_text_Number K0 (m + 1) = s_text_Number_4 (run_text_Number K0 m) K0 from rfl]
          unfold s_text_Number_4
          rw [br_pos (by omega), br_pos (by omega), Int.toNat_natCast, getD_of 0 h1, br_pos (by omega), br_pos (by omega), br_pos (by omega), wr ((i : Int) - a) (by omega) (by omega), br_eq' (by omega)]
          have e1 : IntKind.i64.wrap (IntKind.i64.wrap (10 * n) + IntKind.i64.wrap (IntKind.u8.wrap (b[i] - 48))) = 10 * n + (b[i] - 48) := by
            rw [wr (10 * n) (by omega) (by omega), wr8 (b[i] - 48) (by omega) (by omega), wr (b[i] - 48) (by omega) (by omega), wr _ (by omega) (by omega)]
          rw [e1, wr ((i : Int) + 1) (by omega) (by omega)]
          by_cases c3 : k = 1
          · have hz := hz (by omega)
            have hzf : ¬ b.getD a 0 = 48 := by
              intro h
              exact c2 (.inr ⟨c3, by rw [hz]; exact decide_eq_true h⟩)
            rw [br_eq (by omega), br_pos (by omega), Int.toNat_natCast, br_eq' hzf, br_pos (by omega)]
            rfl
          · rw [br_eq' (by omega), br_pos (by omega)]
            rfl
        · intro _
          by_cases c3 : k = 0
          · rw [if_pos c3]
            have e : i = a := by omega
            subst e
            rw [getD_of 0 h1]
          · rw [if_neg c3]
            exact hz (by omega)
    · rw [if_neg c1]
      refine .now fun m => ?_
      rw [show run_text_Number K0 (m + 1) = s_text_Number_4 (run_text_Number K0 m) K0 from rfl]
      unfold s_text_Number_4
      rw [br_pos (by omega), br_pos (by omega), Int.toNat_natCast, getD_of 0 h1]
      unfold isDig at c1
      by_cases c2 : b[i] ≥ 48
      · rw [br_pos c2, br_pos (by omega), br_neg (by omega)]
        exact stop m
      · rw [br_neg c2]
        exact stop m

theorem ok_text_Number {R : Type} (b : List Int) (vat : Int) (K0 : Int → Int → Int → Option R) {r : R} (h : l_text_Number b vat K0 = some r) : ∃ fuel, e_text_Number (run_text_Number K0 fuel) K0 b vat = some r := by
  unfold l_text_Number at h
  rcases bi_some h with ⟨hs, h⟩ | ⟨_, h⟩
  · have hs : short b := of_decide_eq_true hs
    rw [← h]
    unfold numS
    by_cases c : vat < 0
    · rw [if_pos (.inl c)]
      exact ⟨0, by unfold e_text_Number; rw [br_pos c]⟩
    · by_cases c2 : vat > (b.length : Int)
      · rw [if_pos (.inr c2)]
        exact ⟨0, by unfold e_text_Number; rw [br_neg c, br_pos c2]⟩
      · rw [if_neg (by omega)]
        obtain ⟨a, rfl⟩ : ∃ a : Nat, vat = a := ⟨vat.toNat, by omega⟩
        obtain ⟨n, hn⟩ := (number_run hs (a := a) (by omega) K0 (b.length - a) a 0 false 0 (by omega) (by omega) (by omega) (by omega) (by omega) (by omega)).get
        refine ⟨n, ?_⟩
        unfold e_text_Number
        rw [br_neg c, br_neg c2, hn, Int.toNat_natCast]
        rfl
  · cases h

theorem number_eq {R : Type} {b : List Int} (hs : short b) (vat : Int) (K0 : Int → Int → Int → Option R) : l_text_Number b vat K0 = K0 (numS b vat).1 (numS b vat).2.1 (numS b vat).2.2 := br_pos hs

abbrev LT_text_reader_number_none := {R : Type} → Int → Int → Int → (List Int) → Int → (Int → (List Int) → Int → Int → Int → Option R) → (Int → (List Int) → Int → Option R) → Option R
/-- (*tutor/text.reader).number -/
def l_text_reader_number_none {R : Type} (low high kind : Int) (o0 : List Int) (o0_1 : Int) (K0 : Int → (List Int) → Int → Int → Int → Option R) (K1 : Int → (List Int) → Int → Option R) : Option R :=
  l_text_Number o0 o0_1
   (fun r1 r2 r3 =>
    bi (r3 != 0)
     (K0 r1 o0 r2 r3 r2)
     (bi (decide (r1 < low))
      (K0 r1 o0 r2 kind o0_1)
      (bi (decide (r1 > high))
       (K0 r1 o0 r2 kind o0_1)
       (K1 r1 o0 r2))))

theorem numS_at {b : List Int} {a : Nat} (ha : a ≤ b.length) : numS b (a : Int) = ((numL (b.drop a)).1, ((a + (numL (b.drop a)).2.1 : Nat) : Int), (numL (b.drop a)).2.2) := by
  unfold numS
  rw [if_neg (by omega), Int.toNat_natCast]
  simp

theorem num_ok {R : Type} {b : List Int} (hs : short b) {lo hi kd : Int} {a : Nat} {q : Int × Nat} (ha : a ≤ b.length) (h : numbS lo hi kd b a = .inr q) (K0 : Int → List Int → Int → Int → Int → Option R) (K1 : Int → List Int → Int → Option R) :
    l_text_reader_number_none lo hi kd b (a : Int) K0 K1 = K1 q.1 b (q.2 : Int) := by
  unfold l_text_reader_number_none
  rw [number_eq hs, numS_at ha]
  obtain ⟨h1, h2, h3, h4⟩ := numbS_ok h
  rw [h1]
  rw [br_ne' rfl, br_neg (by simp; omega), br_neg (by simp; omega)]
  simp only
  rw [show a + (q.2 - a) = q.2 by omega]

theorem num_bad {R : Type} {b : List Int} (hs : short b) {lo hi kd : Int} {a : Nat} {e : Int × Int} (ha : a ≤ b.length) (h : numbS lo hi kd b a = .inl e) (K0 : Int → List Int → Int → Int → Int → Option R) (K1 : Int → List Int → Int → Option R) :
    l_text_reader_number_none lo hi kd b (a : Int) K0 K1 = K0 (numL (b.drop a)).1 b ((a + (numL (b.drop a)).2.1 : Nat) : Int) e.1 e.2 := by
  unfold l_text_reader_number_none
  rw [number_eq hs, numS_at ha]
  unfold numbS at h
  by_cases h1 : (numL (b.drop a)).2.2 ≠ 0
  · rw [if_pos h1] at h
    cases h
    rw [br_ne h1]
  · rw [if_neg h1] at h
    rw [br_ne' (Decidable.not_not.1 h1)]
    by_cases h2 : (numL (b.drop a)).1 < lo ∨ hi < (numL (b.drop a)).1
    · rw [if_pos h2] at h
      cases h
      by_cases h3 : (numL (b.drop a)).1 < lo
      · rw [br_pos h3]
      · rw [br_neg h3, br_pos (by simp; omega)]
    · rw [if_neg h2] at h
      cases h

abbrev LT_text_reader_read_none := {R : Type} → (List Int) → Int → (Int → Int → Int → Int → (List Int) → Int → Int → Int → (List Int) → (List Int) → Option R) → (Int → Int → Int → Int → (List Int) → Int → (List Int) → (List Int) → Option R) → Option R
abbrev GT_text_reader_read_none_15a (R : Type) := Int → (List Int) → Int → Int → Int → Int → Int → Int → Int → (List Int) → (List Int) → Int → Int → Int → Int → (List Int) → (List Int) → Option R
abbrev GT_text_reader_read_none_15b (R : Type) := Int → (List Int) → Int → Int → Int → Int → Int → (List Int) → (List Int) → Int → Int → Int → Int → (List Int) → (List Int) → Option R
abbrev GT_text_reader_read_none_19a (R : Type) := Int → (List Int) → Int → Int → Int → Int → Int → Int → Int → (List Int) → (List Int) → Int → Int → Int → Int → (List Int) → (List Int) → Option R
abbrev GT_text_reader_read_none_19b (R : Type) := Int → (List Int) → Int → Int → Int → Int → Int → (List Int) → (List Int) → Int → Int → Int → Int → (List Int) → (List Int) → Option R
abbrev GT_text_reader_read_none_20a (R : Type) := Int → Int → (List Int) → Int → Int → Int → Int → Int → Int → Int → (List Int) → (List Int) → Int → Int → Int → Int → (List Int) → (List Int) → Option R
abbrev GT_text_reader_read_none_20b (R : Type) := Int → Int → (List Int) → Int → Int → Int → Int → Int → (List Int) → (List Int) → Int → Int → Int → Int → (List Int) → (List Int) → Option R
abbrev GT_text_reader_read_none_25a (R : Type) := Int → Int → (List Int) → Int → Int → Int → Int → Int → Int → Int → (List Int) → (List Int) → Int → Int → Int → Int → (List Int) → (List Int) → Option R
abbrev GT_text_reader_read_none_25b (R : Type) := Int → Int → (List Int) → Int → Int → Int → Int → Int → (List Int) → (List Int) → Int → Int → Int → Int → (List Int) → (List Int) → Option R
abbrev GT_text_reader_read_none_21a (R : Type) := Int → Int → (List Int) → Int → Int → Int → Int → Int → Int → Int → (List Int) → (List Int) → Int → Int → Int → Int → (List Int) → (List Int) → Option R
abbrev GT_text_reader_read_none_21b (R : Type) := Int → Int → (List Int) → Int → Int → Int → Int → Int → (List Int) → (List Int) → Int → Int → Int → Int → (List Int) → (List Int) → Option R
/-- (*tutor/text.reader).read -/
def s_text_reader_read_none_15a {R : Type} (g38_15 : GT_text_reader_read_none_15a R) (g38_15b : GT_text_reader_read_none_15b R) (g38_19 : GT_text_reader_read_none_19a R) (g38_19b : GT_text_reader_read_none_19b R) (g38_20 : GT_text_reader_read_none_20a R) (g38_20b : GT_text_reader_read_none_20b R) (g38_25 : GT_text_reader_read_none_25a R) (g38_25b : GT_text_reader_read_none_25b R) (g38_21 : GT_text_reader_read_none_21a R) (g38_21b : GT_text_reader_read_none_21b R) (K0 : Int → Int → Int → Int → (List Int) → Int → Int → Int → (List Int) → (List Int) → Option R) (K1 : Int → Int → Int → Int → (List Int) → Int → (List Int) → (List Int) → Option R) (s : Int) (o0 : List Int) (o0_1 o1 o1_1 o2 o2_1 o2_2 o2_3 : Int) (o3 o4 : List Int) (o5 o5_1 o5_2 o5_3 : Int) (o6 o7 : List Int) : Option R :=
  bi (decide (s < o5_3))
   (K0 o5 o5_1 o5_2 o5_3 o0 o0_1 o1 o1_1 o6 o7)
   (K0 o5 o5_1 o5_2 o5_3 o0 o0_1 o1 o1_1 o6 o7)

/-- (*tutor/text.reader).read -/
def s_text_reader_read_none_15b {R : Type} (g38_15 : GT_text_reader_read_none_15a R) (g38_15b : GT_text_reader_read_none_15b R) (g38_19 : GT_text_reader_read_none_19a R) (g38_19b : GT_text_reader_read_none_19b R) (g38_20 : GT_text_reader_read_none_20a R) (g38_20b : GT_text_reader_read_none_20b R) (g38_25 : GT_text_reader_read_none_25a R) (g38_25b : GT_text_reader_read_none_25b R) (g38_21 : GT_text_reader_read_none_21a R) (g38_21b : GT_text_reader_read_none_21b R) (K0 : Int → Int → Int → Int → (List Int) → Int → Int → Int → (List Int) → (List Int) → Option R) (K1 : Int → Int → Int → Int → (List Int) → Int → (List Int) → (List Int) → Option R) (s : Int) (o0 : List Int) (o0_1 o1 o1_1 o1_2 o1_3 : Int) (o2 o3 : List Int) (o4 o4_1 o4_2 o4_3 : Int) (o5 o6 : List Int) : Option R :=
  bi (decide (s < o4_3))
   (bi (o4 == 1)
    (both
     (l_text_reader_number_none 0 1 33 o0 o0_1
      (fun r298 r299 r300 r301 r302 =>
       bi (decide ((o6.length + [r298].length) * 8 ≤ lim))
        (g38_19 s r299 r300 r301 r302 o1 o1_1 o1_2 o1_3 o2 o3 o4 o4_1 o4_2 o4_3 o5 (o6 ++ [r298]))
        none)
      (fun r303 r304 r305 =>
       bi (decide ((o6.length + [r303].length) * 8 ≤ lim))
        (g38_19b s r304 r305 o1 o1_1 o1_2 o1_3 o2 o3 o4 o4_1 o4_2 o4_3 o5 (o6 ++ [r303]))
        none))
     (l_text_reader_number_none 0 1 33 o0 o0_1
      (fun r298 r299 r300 r301 r302 =>
       twice
        (bi (decide ((o6.length + [r298].length) * 8 ≤ lim))
         (g38_19 s r299 r300 r301 r302 o1 o1_1 o1_2 o1_3 o2 o3 o4 o4_1 o4_2 o4_3 o5 (o6 ++ [r298]))
         none))
      (fun r303 r304 r305 =>
       twice
        (bi (decide ((o6.length + [r303].length) * 8 ≤ lim))
         (g38_19b s r304 r305 o1 o1_1 o1_2 o1_3 o2 o3 o4 o4_1 o4_2 o4_3 o5 (o6 ++ [r303]))
         none))))
    (g38_19b s o0 o0_1 o1 o1_1 o1_2 o1_3 o2 o3 o4 o4_1 o4_2 o4_3 o5 o6))
   (bi (decide (o0_1 < (o0.length : Int)))
    (K0 o4 o4_1 o4_2 o4_3 o0 o0_1 6 o0_1 o5 o6)
    (K1 o4 o4_1 o4_2 o4_3 o0 o0_1 o5 o6))

/-- (*tutor/text.reader).read -/
def s_text_reader_read_none_19a {R : Type} (g38_15 : GT_text_reader_read_none_15a R) (g38_15b : GT_text_reader_read_none_15b R) (g38_19 : GT_text_reader_read_none_19a R) (g38_19b : GT_text_reader_read_none_19b R) (g38_20 : GT_text_reader_read_none_20a R) (g38_20b : GT_text_reader_read_none_20b R) (g38_25 : GT_text_reader_read_none_25a R) (g38_25b : GT_text_reader_read_none_25b R) (g38_21 : GT_text_reader_read_none_21a R) (g38_21b : GT_text_reader_read_none_21b R) (K0 : Int → Int → Int → Int → (List Int) → Int → Int → Int → (List Int) → (List Int) → Option R) (K1 : Int → Int → Int → Int → (List Int) → Int → (List Int) → (List Int) → Option R) (s : Int) (o0 : List Int) (o0_1 o1 o1_1 o2 o2_1 o2_2 o2_3 : Int) (o3 o4 : List Int) (o5 o5_1 o5_2 o5_3 : Int) (o6 o7 : List Int) : Option R :=
  g38_20 s 0 o0 o0_1 o1 o1_1 o2 o2_1 o2_2 o2_3 o3 o4 o5 o5_1 o5_2 o5_3 o6 o7

/-- (*tutor/text.reader).read -/
def s_text_reader_read_none_19b {R : Type} (g38_15 : GT_text_reader_read_none_15a R) (g38_15b : GT_text_reader_read_none_15b R) (g38_19 : GT_text_reader_read_none_19a R) (g38_19b : GT_text_reader_read_none_19b R) (g38_20 : GT_text_reader_read_none_20a R) (g38_20b : GT_text_reader_read_none_20b R) (g38_25 : GT_text_reader_read_none_25a R) (g38_25b : GT_text_reader_read_none_25b R) (g38_21 : GT_text_reader_read_none_21a R) (g38_21b : GT_text_reader_read_none_21b R) (K0 : Int → Int → Int → Int → (List Int) → Int → Int → Int → (List Int) → (List Int) → Option R) (K1 : Int → Int → Int → Int → (List Int) → Int → (List Int) → (List Int) → Option R) (s : Int) (o0 : List Int) (o0_1 o1 o1_1 o1_2 o1_3 : Int) (o2 o3 : List Int) (o4 o4_1 o4_2 o4_3 : Int) (o5 o6 : List Int) : Option R :=
  g38_20b s 0 o0 o0_1 o1 o1_1 o1_2 o1_3 o2 o3 o4 o4_1 o4_2 o4_3 o5 o6

/-- (*tutor/text.reader).read -/
def s_text_reader_read_none_20a {R : Type} (g38_15 : GT_text_reader_read_none_15a R) (g38_15b : GT_text_reader_read_none_15b R) (g38_19 : GT_text_reader_read_none_19a R) (g38_19b : GT_text_reader_read_none_19b R) (g38_20 : GT_text_reader_read_none_20a R) (g38_20b : GT_text_reader_read_none_20b R) (g38_25 : GT_text_reader_read_none_25a R) (g38_25b : GT_text_reader_read_none_25b R) (g38_21 : GT_text_reader_read_none_21a R) (g38_21b : GT_text_reader_read_none_21b R) (K0 : Int → Int → Int → Int → (List Int) → Int → Int → Int → (List Int) → (List Int) → Option R) (K1 : Int → Int → Int → Int → (List Int) → Int → (List Int) → (List Int) → Option R) (s x : Int) (o0 : List Int) (o0_1 o1 o1_1 o2 o2_1 o2_2 o2_3 : Int) (o3 o4 : List Int) (o5 o5_1 o5_2 o5_3 : Int) (o6 o7 : List Int) : Option R :=
  bi (decide (x < o5_1))
   (l_text_reader_want_fault (ByteArray.mk #[10]) o0 o0_1 o1 o1_1
    (fun r306 r307 r308 r309 =>
     g38_15 (IntKind.i64.wrap (s + 1)) r306 r307 r308 r309 o2 o2_1 o2_2 o2_3 o3 o4 o5 o5_1 o5_2 o5_3 o6 o7))
   (l_text_reader_want_fault (ByteArray.mk #[10]) o0 o0_1 o1 o1_1
    (fun r310 r311 r312 r313 =>
     g38_15 (IntKind.i64.wrap (s + 1)) r310 r311 r312 r313 o2 o2_1 o2_2 o2_3 o3 o4 o5 o5_1 o5_2 o5_3 o6 o7))

/-- (*tutor/text.reader).read -/
def s_text_reader_read_none_20b {R : Type} (g38_15 : GT_text_reader_read_none_15a R) (g38_15b : GT_text_reader_read_none_15b R) (g38_19 : GT_text_reader_read_none_19a R) (g38_19b : GT_text_reader_read_none_19b R) (g38_20 : GT_text_reader_read_none_20a R) (g38_20b : GT_text_reader_read_none_20b R) (g38_25 : GT_text_reader_read_none_25a R) (g38_25b : GT_text_reader_read_none_25b R) (g38_21 : GT_text_reader_read_none_21a R) (g38_21b : GT_text_reader_read_none_21b R) (K0 : Int → Int → Int → Int → (List Int) → Int → Int → Int → (List Int) → (List Int) → Option R) (K1 : Int → Int → Int → Int → (List Int) → Int → (List Int) → (List Int) → Option R) (s x : Int) (o0 : List Int) (o0_1 o1 o1_1 o1_2 o1_3 : Int) (o2 o3 : List Int) (o4 o4_1 o4_2 o4_3 : Int) (o5 o6 : List Int) : Option R :=
  bi (decide (x < o4_1))
   (bi (decide (x > 0))
    (l_text_reader_want_none (ByteArray.mk #[32]) o0 o0_1
     (fun r314 r315 r316 r317 =>
      both
       (l_text_reader_number_fault 0 (IntKind.i64.wrap (o4_3 - 1)) 32 r314 r315 r316 r317
        (fun r318 r319 r320 r321 r322 =>
         bi (decide ((o5.length + [r318].length) * 8 ≤ lim))
          (g38_25 s x r319 r320 r321 r322 o1 o1_1 o1_2 o1_3 o2 o3 o4 o4_1 o4_2 o4_3 (o5 ++ [r318]) o6)
          none))
       (l_text_reader_number_fault 0 (IntKind.i64.wrap (o4_3 - 1)) 32 r314 r315 r316 r317
        (fun r318 r319 r320 r321 r322 =>
         twice
          (bi (decide ((o5.length + [r318].length) * 8 ≤ lim))
           (g38_25 s x r319 r320 r321 r322 o1 o1_1 o1_2 o1_3 o2 o3 o4 o4_1 o4_2 o4_3 (o5 ++ [r318]) o6)
           none))))
     (fun r323 r324 =>
      both
       (l_text_reader_number_none 0 (IntKind.i64.wrap (o4_3 - 1)) 32 r323 r324
        (fun r325 r326 r327 r328 r329 =>
         bi (decide ((o5.length + [r325].length) * 8 ≤ lim))
          (g38_25 s x r326 r327 r328 r329 o1 o1_1 o1_2 o1_3 o2 o3 o4 o4_1 o4_2 o4_3 (o5 ++ [r325]) o6)
          none)
        (fun r330 r331 r332 =>
         bi (decide ((o5.length + [r330].length) * 8 ≤ lim))
          (g38_25b s x r331 r332 o1 o1_1 o1_2 o1_3 o2 o3 o4 o4_1 o4_2 o4_3 (o5 ++ [r330]) o6)
          none))
       (l_text_reader_number_none 0 (IntKind.i64.wrap (o4_3 - 1)) 32 r323 r324
        (fun r325 r326 r327 r328 r329 =>
         twice
          (bi (decide ((o5.length + [r325].length) * 8 ≤ lim))
           (g38_25 s x r326 r327 r328 r329 o1 o1_1 o1_2 o1_3 o2 o3 o4 o4_1 o4_2 o4_3 (o5 ++ [r325]) o6)
           none))
        (fun r330 r331 r332 =>
         twice
          (bi (decide ((o5.length + [r330].length) * 8 ≤ lim))
           (g38_25b s x r331 r332 o1 o1_1 o1_2 o1_3 o2 o3 o4 o4_1 o4_2 o4_3 (o5 ++ [r330]) o6)
           none)))))
    (bi (o4 == 1)
     (l_text_reader_want_none (ByteArray.mk #[32]) o0 o0_1
      (fun r333 r334 r335 r336 =>
       both
        (l_text_reader_number_fault 0 (IntKind.i64.wrap (o4_3 - 1)) 32 r333 r334 r335 r336
         (fun r337 r338 r339 r340 r341 =>
          bi (decide ((o5.length + [r337].length) * 8 ≤ lim))
           (g38_25 s x r338 r339 r340 r341 o1 o1_1 o1_2 o1_3 o2 o3 o4 o4_1 o4_2 o4_3 (o5 ++ [r337]) o6)
           none))
        (l_text_reader_number_fault 0 (IntKind.i64.wrap (o4_3 - 1)) 32 r333 r334 r335 r336
         (fun r337 r338 r339 r340 r341 =>
          twice
           (bi (decide ((o5.length + [r337].length) * 8 ≤ lim))
            (g38_25 s x r338 r339 r340 r341 o1 o1_1 o1_2 o1_3 o2 o3 o4 o4_1 o4_2 o4_3 (o5 ++ [r337]) o6)
            none))))
      (fun r342 r343 =>
       both
        (l_text_reader_number_none 0 (IntKind.i64.wrap (o4_3 - 1)) 32 r342 r343
         (fun r344 r345 r346 r347 r348 =>
          bi (decide ((o5.length + [r344].length) * 8 ≤ lim))
           (g38_25 s x r345 r346 r347 r348 o1 o1_1 o1_2 o1_3 o2 o3 o4 o4_1 o4_2 o4_3 (o5 ++ [r344]) o6)
           none)
         (fun r349 r350 r351 =>
          bi (decide ((o5.length + [r349].length) * 8 ≤ lim))
           (g38_25b s x r350 r351 o1 o1_1 o1_2 o1_3 o2 o3 o4 o4_1 o4_2 o4_3 (o5 ++ [r349]) o6)
           none))
        (l_text_reader_number_none 0 (IntKind.i64.wrap (o4_3 - 1)) 32 r342 r343
         (fun r344 r345 r346 r347 r348 =>
          twice
           (bi (decide ((o5.length + [r344].length) * 8 ≤ lim))
            (g38_25 s x r345 r346 r347 r348 o1 o1_1 o1_2 o1_3 o2 o3 o4 o4_1 o4_2 o4_3 (o5 ++ [r344]) o6)
            none))
         (fun r349 r350 r351 =>
          twice
           (bi (decide ((o5.length + [r349].length) * 8 ≤ lim))
            (g38_25b s x r350 r351 o1 o1_1 o1_2 o1_3 o2 o3 o4 o4_1 o4_2 o4_3 (o5 ++ [r349]) o6)
            none)))))
     (both
      (l_text_reader_number_none 0 (IntKind.i64.wrap (o4_3 - 1)) 32 o0 o0_1
       (fun r352 r353 r354 r355 r356 =>
        bi (decide ((o5.length + [r352].length) * 8 ≤ lim))
         (g38_25 s x r353 r354 r355 r356 o1 o1_1 o1_2 o1_3 o2 o3 o4 o4_1 o4_2 o4_3 (o5 ++ [r352]) o6)
         none)
       (fun r357 r358 r359 =>
        bi (decide ((o5.length + [r357].length) * 8 ≤ lim))
         (g38_25b s x r358 r359 o1 o1_1 o1_2 o1_3 o2 o3 o4 o4_1 o4_2 o4_3 (o5 ++ [r357]) o6)
         none))
      (l_text_reader_number_none 0 (IntKind.i64.wrap (o4_3 - 1)) 32 o0 o0_1
       (fun r352 r353 r354 r355 r356 =>
        twice
         (bi (decide ((o5.length + [r352].length) * 8 ≤ lim))
          (g38_25 s x r353 r354 r355 r356 o1 o1_1 o1_2 o1_3 o2 o3 o4 o4_1 o4_2 o4_3 (o5 ++ [r352]) o6)
          none))
       (fun r357 r358 r359 =>
        twice
         (bi (decide ((o5.length + [r357].length) * 8 ≤ lim))
          (g38_25b s x r358 r359 o1 o1_1 o1_2 o1_3 o2 o3 o4 o4_1 o4_2 o4_3 (o5 ++ [r357]) o6)
          none))))))
   (l_text_reader_want_none (ByteArray.mk #[10]) o0 o0_1
    (fun r360 r361 r362 r363 =>
     g38_15 (IntKind.i64.wrap (s + 1)) r360 r361 r362 r363 o1 o1_1 o1_2 o1_3 o2 o3 o4 o4_1 o4_2 o4_3 o5 o6)
    (fun r364 r365 =>
     g38_15b (IntKind.i64.wrap (s + 1)) r364 r365 o1 o1_1 o1_2 o1_3 o2 o3 o4 o4_1 o4_2 o4_3 o5 o6))

/-- (*tutor/text.reader).read -/
def s_text_reader_read_none_25a {R : Type} (g38_15 : GT_text_reader_read_none_15a R) (g38_15b : GT_text_reader_read_none_15b R) (g38_19 : GT_text_reader_read_none_19a R) (g38_19b : GT_text_reader_read_none_19b R) (g38_20 : GT_text_reader_read_none_20a R) (g38_20b : GT_text_reader_read_none_20b R) (g38_25 : GT_text_reader_read_none_25a R) (g38_25b : GT_text_reader_read_none_25b R) (g38_21 : GT_text_reader_read_none_21a R) (g38_21b : GT_text_reader_read_none_21b R) (K0 : Int → Int → Int → Int → (List Int) → Int → Int → Int → (List Int) → (List Int) → Option R) (K1 : Int → Int → Int → Int → (List Int) → Int → (List Int) → (List Int) → Option R) (s x : Int) (o0 : List Int) (o0_1 o1 o1_1 o2 o2_1 o2_2 o2_3 : Int) (o3 o4 : List Int) (o5 o5_1 o5_2 o5_3 : Int) (o6 o7 : List Int) : Option R :=
  bi (o5 == 2)
   (l_text_reader_want_fault (ByteArray.mk #[47]) o0 o0_1 o1 o1_1
    (fun r366 r367 r368 r369 =>
     both
      (l_text_reader_number_fault 0 (IntKind.i64.wrap (o5_2 - 1)) 33 r366 r367 r368 r369
       (fun r370 r371 r372 r373 r374 =>
        bi (decide ((o7.length + [r370].length) * 8 ≤ lim))
         (g38_21 s x r371 r372 r373 r374 o2 o2_1 o2_2 o2_3 o3 o4 o5 o5_1 o5_2 o5_3 o6 (o7 ++ [r370]))
         none))
      (l_text_reader_number_fault 0 (IntKind.i64.wrap (o5_2 - 1)) 33 r366 r367 r368 r369
       (fun r370 r371 r372 r373 r374 =>
        twice
         (bi (decide ((o7.length + [r370].length) * 8 ≤ lim))
          (g38_21 s x r371 r372 r373 r374 o2 o2_1 o2_2 o2_3 o3 o4 o5 o5_1 o5_2 o5_3 o6 (o7 ++ [r370]))
          none)))))
   (g38_21 s x o0 o0_1 o1 o1_1 o2 o2_1 o2_2 o2_3 o3 o4 o5 o5_1 o5_2 o5_3 o6 o7)

/-- (*tutor/text.reader).read -/
def s_text_reader_read_none_25b {R : Type} (g38_15 : GT_text_reader_read_none_15a R) (g38_15b : GT_text_reader_read_none_15b R) (g38_19 : GT_text_reader_read_none_19a R) (g38_19b : GT_text_reader_read_none_19b R) (g38_20 : GT_text_reader_read_none_20a R) (g38_20b : GT_text_reader_read_none_20b R) (g38_25 : GT_text_reader_read_none_25a R) (g38_25b : GT_text_reader_read_none_25b R) (g38_21 : GT_text_reader_read_none_21a R) (g38_21b : GT_text_reader_read_none_21b R) (K0 : Int → Int → Int → Int → (List Int) → Int → Int → Int → (List Int) → (List Int) → Option R) (K1 : Int → Int → Int → Int → (List Int) → Int → (List Int) → (List Int) → Option R) (s x : Int) (o0 : List Int) (o0_1 o1 o1_1 o1_2 o1_3 : Int) (o2 o3 : List Int) (o4 o4_1 o4_2 o4_3 : Int) (o5 o6 : List Int) : Option R :=
  bi (o4 == 2)
   (l_text_reader_want_none (ByteArray.mk #[47]) o0 o0_1
    (fun r375 r376 r377 r378 =>
     both
      (l_text_reader_number_fault 0 (IntKind.i64.wrap (o4_2 - 1)) 33 r375 r376 r377 r378
       (fun r379 r380 r381 r382 r383 =>
        bi (decide ((o6.length + [r379].length) * 8 ≤ lim))
         (g38_21 s x r380 r381 r382 r383 o1 o1_1 o1_2 o1_3 o2 o3 o4 o4_1 o4_2 o4_3 o5 (o6 ++ [r379]))
         none))
      (l_text_reader_number_fault 0 (IntKind.i64.wrap (o4_2 - 1)) 33 r375 r376 r377 r378
       (fun r379 r380 r381 r382 r383 =>
        twice
         (bi (decide ((o6.length + [r379].length) * 8 ≤ lim))
          (g38_21 s x r380 r381 r382 r383 o1 o1_1 o1_2 o1_3 o2 o3 o4 o4_1 o4_2 o4_3 o5 (o6 ++ [r379]))
          none))))
    (fun r384 r385 =>
     both
      (l_text_reader_number_none 0 (IntKind.i64.wrap (o4_2 - 1)) 33 r384 r385
       (fun r386 r387 r388 r389 r390 =>
        bi (decide ((o6.length + [r386].length) * 8 ≤ lim))
         (g38_21 s x r387 r388 r389 r390 o1 o1_1 o1_2 o1_3 o2 o3 o4 o4_1 o4_2 o4_3 o5 (o6 ++ [r386]))
         none)
       (fun r391 r392 r393 =>
        bi (decide ((o6.length + [r391].length) * 8 ≤ lim))
         (g38_21b s x r392 r393 o1 o1_1 o1_2 o1_3 o2 o3 o4 o4_1 o4_2 o4_3 o5 (o6 ++ [r391]))
         none))
      (l_text_reader_number_none 0 (IntKind.i64.wrap (o4_2 - 1)) 33 r384 r385
       (fun r386 r387 r388 r389 r390 =>
        twice
         (bi (decide ((o6.length + [r386].length) * 8 ≤ lim))
          (g38_21 s x r387 r388 r389 r390 o1 o1_1 o1_2 o1_3 o2 o3 o4 o4_1 o4_2 o4_3 o5 (o6 ++ [r386]))
          none))
       (fun r391 r392 r393 =>
        twice
         (bi (decide ((o6.length + [r391].length) * 8 ≤ lim))
          (g38_21b s x r392 r393 o1 o1_1 o1_2 o1_3 o2 o3 o4 o4_1 o4_2 o4_3 o5 (o6 ++ [r391]))
          none)))))
   (g38_21b s x o0 o0_1 o1 o1_1 o1_2 o1_3 o2 o3 o4 o4_1 o4_2 o4_3 o5 o6)

/-- (*tutor/text.reader).read -/
def s_text_reader_read_none_21a {R : Type} (g38_15 : GT_text_reader_read_none_15a R) (g38_15b : GT_text_reader_read_none_15b R) (g38_19 : GT_text_reader_read_none_19a R) (g38_19b : GT_text_reader_read_none_19b R) (g38_20 : GT_text_reader_read_none_20a R) (g38_20b : GT_text_reader_read_none_20b R) (g38_25 : GT_text_reader_read_none_25a R) (g38_25b : GT_text_reader_read_none_25b R) (g38_21 : GT_text_reader_read_none_21a R) (g38_21b : GT_text_reader_read_none_21b R) (K0 : Int → Int → Int → Int → (List Int) → Int → Int → Int → (List Int) → (List Int) → Option R) (K1 : Int → Int → Int → Int → (List Int) → Int → (List Int) → (List Int) → Option R) (s x : Int) (o0 : List Int) (o0_1 o1 o1_1 o2 o2_1 o2_2 o2_3 : Int) (o3 o4 : List Int) (o5 o5_1 o5_2 o5_3 : Int) (o6 o7 : List Int) : Option R :=
  g38_20 s (IntKind.i64.wrap (x + 1)) o0 o0_1 o1 o1_1 o2 o2_1 o2_2 o2_3 o3 o4 o5 o5_1 o5_2 o5_3 o6 o7

/-- (*tutor/text.reader).read -/
def s_text_reader_read_none_21b {R : Type} (g38_15 : GT_text_reader_read_none_15a R) (g38_15b : GT_text_reader_read_none_15b R) (g38_19 : GT_text_reader_read_none_19a R) (g38_19b : GT_text_reader_read_none_19b R) (g38_20 : GT_text_reader_read_none_20a R) (g38_20b : GT_text_reader_read_none_20b R) (g38_25 : GT_text_reader_read_none_25a R) (g38_25b : GT_text_reader_read_none_25b R) (g38_21 : GT_text_reader_read_none_21a R) (g38_21b : GT_text_reader_read_none_21b R) (K0 : Int → Int → Int → Int → (List Int) → Int → Int → Int → (List Int) → (List Int) → Option R) (K1 : Int → Int → Int → Int → (List Int) → Int → (List Int) → (List Int) → Option R) (s x : Int) (o0 : List Int) (o0_1 o1 o1_1 o1_2 o1_3 : Int) (o2 o3 : List Int) (o4 o4_1 o4_2 o4_3 : Int) (o5 o6 : List Int) : Option R :=
  g38_20b s (IntKind.i64.wrap (x + 1)) o0 o0_1 o1 o1_1 o1_2 o1_3 o2 o3 o4 o4_1 o4_2 o4_3 o5 o6

/-- (*tutor/text.reader).read -/
def e_text_reader_read_none {R : Type} (g38_15 : GT_text_reader_read_none_15a R) (g38_15b : GT_text_reader_read_none_15b R) (g38_19 : GT_text_reader_read_none_19a R) (g38_19b : GT_text_reader_read_none_19b R) (g38_20 : GT_text_reader_read_none_20a R) (g38_20b : GT_text_reader_read_none_20b R) (g38_25 : GT_text_reader_read_none_25a R) (g38_25b : GT_text_reader_read_none_25b R) (g38_21 : GT_text_reader_read_none_21a R) (g38_21b : GT_text_reader_read_none_21b R) (K0 : Int → Int → Int → Int → (List Int) → Int → Int → Int → (List Int) → (List Int) → Option R) (K1 : Int → Int → Int → Int → (List Int) → Int → (List Int) → (List Int) → Option R) (o0 : List Int) (o0_1 : Int) : Option R :=
  bi (decide ((o0.length : Int) > 0))
   (bi (decide (0 ≤ (0 : Int) ∧ (0 : Int) < ((o0.length : Nat) : Int)))
    (bi ((o0.getD 0 0) == 109)
     (l_text_reader_want_none (ByteArray.mk #[109, 101, 97, 108, 121, 32]) o0 o0_1
      (fun r1 r2 r3 r4 =>
       l_text_reader_number_fault 1 64 1 r1 r2 r3 r4
        (fun r5 r6 r7 r8 r9 =>
         l_text_reader_want_fault (ByteArray.mk #[32]) r6 r7 r8 r9
          (fun r10 r11 r12 r13 =>
           l_text_reader_number_fault 1 64 33 r10 r11 r12 r13
            (fun r14 r15 r16 r17 r18 =>
             l_text_reader_want_fault (ByteArray.mk #[32]) r15 r16 r17 r18
              (fun r19 r20 r21 r22 =>
               l_text_reader_number_fault 1 1024 3 r19 r20 r21 r22
                (fun r23 r24 r25 r26 r27 =>
                 l_text_reader_want_fault (ByteArray.mk #[10]) r24 r25 r26 r27
                  (fun r28 r29 r30 r31 =>
                   g38_15 0 r28 r29 r30 r31 0 0 0 0 ([] : List Int) ([] : List Int) 2 r5 r14 r23 ([] : List Int) ([] : List Int))))))))
      (fun r32 r33 =>
       l_text_reader_number_none 1 64 1 r32 r33
        (fun r34 r35 r36 r37 r38 =>
         l_text_reader_want_fault (ByteArray.mk #[32]) r35 r36 r37 r38
          (fun r39 r40 r41 r42 =>
           l_text_reader_number_fault 1 64 33 r39 r40 r41 r42
            (fun r43 r44 r45 r46 r47 =>
             l_text_reader_want_fault (ByteArray.mk #[32]) r44 r45 r46 r47
              (fun r48 r49 r50 r51 =>
               l_text_reader_number_fault 1 1024 3 r48 r49 r50 r51
                (fun r52 r53 r54 r55 r56 =>
                 l_text_reader_want_fault (ByteArray.mk #[10]) r53 r54 r55 r56
                  (fun r57 r58 r59 r60 =>
                   g38_15 0 r57 r58 r59 r60 0 0 0 0 ([] : List Int) ([] : List Int) 2 r34 r43 r52 ([] : List Int) ([] : List Int)))))))
        (fun r61 r62 r63 =>
         l_text_reader_want_none (ByteArray.mk #[32]) r62 r63
          (fun r64 r65 r66 r67 =>
           l_text_reader_number_fault 1 64 33 r64 r65 r66 r67
            (fun r68 r69 r70 r71 r72 =>
             l_text_reader_want_fault (ByteArray.mk #[32]) r69 r70 r71 r72
              (fun r73 r74 r75 r76 =>
               l_text_reader_number_fault 1 1024 3 r73 r74 r75 r76
                (fun r77 r78 r79 r80 r81 =>
                 l_text_reader_want_fault (ByteArray.mk #[10]) r78 r79 r80 r81
                  (fun r82 r83 r84 r85 =>
                   g38_15 0 r82 r83 r84 r85 0 0 0 0 ([] : List Int) ([] : List Int) 2 r61 r68 r77 ([] : List Int) ([] : List Int))))))
          (fun r86 r87 =>
           l_text_reader_number_none 1 64 33 r86 r87
            (fun r88 r89 r90 r91 r92 =>
             l_text_reader_want_fault (ByteArray.mk #[32]) r89 r90 r91 r92
              (fun r93 r94 r95 r96 =>
               l_text_reader_number_fault 1 1024 3 r93 r94 r95 r96
                (fun r97 r98 r99 r100 r101 =>
                 l_text_reader_want_fault (ByteArray.mk #[10]) r98 r99 r100 r101
                  (fun r102 r103 r104 r105 =>
                   g38_15 0 r102 r103 r104 r105 0 0 0 0 ([] : List Int) ([] : List Int) 2 r61 r88 r97 ([] : List Int) ([] : List Int)))))
            (fun r106 r107 r108 =>
             l_text_reader_want_none (ByteArray.mk #[32]) r107 r108
              (fun r109 r110 r111 r112 =>
               l_text_reader_number_fault 1 1024 3 r109 r110 r111 r112
                (fun r113 r114 r115 r116 r117 =>
                 l_text_reader_want_fault (ByteArray.mk #[10]) r114 r115 r116 r117
                  (fun r118 r119 r120 r121 =>
                   g38_15 0 r118 r119 r120 r121 0 0 0 0 ([] : List Int) ([] : List Int) 2 r61 r106 r113 ([] : List Int) ([] : List Int))))
              (fun r122 r123 =>
               l_text_reader_number_none 1 1024 3 r122 r123
                (fun r124 r125 r126 r127 r128 =>
                 l_text_reader_want_fault (ByteArray.mk #[10]) r125 r126 r127 r128
                  (fun r129 r130 r131 r132 =>
                   g38_15 0 r129 r130 r131 r132 0 0 0 0 ([] : List Int) ([] : List Int) 2 r61 r106 r124 ([] : List Int) ([] : List Int)))
                (fun r133 r134 r135 =>
                 l_text_reader_want_none (ByteArray.mk #[10]) r134 r135
                  (fun r136 r137 r138 r139 =>
                   g38_15 0 r136 r137 r138 r139 0 0 0 0 ([] : List Int) ([] : List Int) 2 r61 r106 r133 ([] : List Int) ([] : List Int))
                  (fun r140 r141 =>
                   g38_15b 0 r140 r141 0 0 0 0 ([] : List Int) ([] : List Int) 2 r61 r106 r133 ([] : List Int) ([] : List Int)))))))))
     (l_text_reader_want_none (ByteArray.mk #[100, 102, 97, 32]) o0 o0_1
      (fun r142 r143 r144 r145 =>
       l_text_reader_number_fault 1 64 1 r142 r143 r144 r145
        (fun r146 r147 r148 r149 r150 =>
         l_text_reader_want_fault (ByteArray.mk #[32]) r147 r148 r149 r150
          (fun r151 r152 r153 r154 =>
           l_text_reader_number_fault 1 1024 3 r151 r152 r153 r154
            (fun r155 r156 r157 r158 r159 =>
             l_text_reader_want_fault (ByteArray.mk #[10]) r156 r157 r158 r159
              (fun r160 r161 r162 r163 =>
               g38_15 0 r160 r161 r162 r163 0 0 0 0 ([] : List Int) ([] : List Int) 1 r146 2 r155 ([] : List Int) ([] : List Int))))))
      (fun r164 r165 =>
       l_text_reader_number_none 1 64 1 r164 r165
        (fun r166 r167 r168 r169 r170 =>
         l_text_reader_want_fault (ByteArray.mk #[32]) r167 r168 r169 r170
          (fun r171 r172 r173 r174 =>
           l_text_reader_number_fault 1 1024 3 r171 r172 r173 r174
            (fun r175 r176 r177 r178 r179 =>
             l_text_reader_want_fault (ByteArray.mk #[10]) r176 r177 r178 r179
              (fun r180 r181 r182 r183 =>
               g38_15 0 r180 r181 r182 r183 0 0 0 0 ([] : List Int) ([] : List Int) 1 r166 2 r175 ([] : List Int) ([] : List Int)))))
        (fun r184 r185 r186 =>
         l_text_reader_want_none (ByteArray.mk #[32]) r185 r186
          (fun r187 r188 r189 r190 =>
           l_text_reader_number_fault 1 1024 3 r187 r188 r189 r190
            (fun r191 r192 r193 r194 r195 =>
             l_text_reader_want_fault (ByteArray.mk #[10]) r192 r193 r194 r195
              (fun r196 r197 r198 r199 =>
               g38_15 0 r196 r197 r198 r199 0 0 0 0 ([] : List Int) ([] : List Int) 1 r184 2 r191 ([] : List Int) ([] : List Int))))
          (fun r200 r201 =>
           l_text_reader_number_none 1 1024 3 r200 r201
            (fun r202 r203 r204 r205 r206 =>
             l_text_reader_want_fault (ByteArray.mk #[10]) r203 r204 r205 r206
              (fun r207 r208 r209 r210 =>
               g38_15 0 r207 r208 r209 r210 0 0 0 0 ([] : List Int) ([] : List Int) 1 r184 2 r202 ([] : List Int) ([] : List Int)))
            (fun r211 r212 r213 =>
             l_text_reader_want_none (ByteArray.mk #[10]) r212 r213
              (fun r214 r215 r216 r217 =>
               g38_15 0 r214 r215 r216 r217 0 0 0 0 ([] : List Int) ([] : List Int) 1 r184 2 r211 ([] : List Int) ([] : List Int))
              (fun r218 r219 =>
               g38_15b 0 r218 r219 0 0 0 0 ([] : List Int) ([] : List Int) 1 r184 2 r211 ([] : List Int) ([] : List Int))))))))
    none)
   (l_text_reader_want_none (ByteArray.mk #[100, 102, 97, 32]) o0 o0_1
    (fun r220 r221 r222 r223 =>
     l_text_reader_number_fault 1 64 1 r220 r221 r222 r223
      (fun r224 r225 r226 r227 r228 =>
       l_text_reader_want_fault (ByteArray.mk #[32]) r225 r226 r227 r228
        (fun r229 r230 r231 r232 =>
         l_text_reader_number_fault 1 1024 3 r229 r230 r231 r232
          (fun r233 r234 r235 r236 r237 =>
           l_text_reader_want_fault (ByteArray.mk #[10]) r234 r235 r236 r237
            (fun r238 r239 r240 r241 =>
             g38_15 0 r238 r239 r240 r241 0 0 0 0 ([] : List Int) ([] : List Int) 1 r224 2 r233 ([] : List Int) ([] : List Int))))))
    (fun r242 r243 =>
     l_text_reader_number_none 1 64 1 r242 r243
      (fun r244 r245 r246 r247 r248 =>
       l_text_reader_want_fault (ByteArray.mk #[32]) r245 r246 r247 r248
        (fun r249 r250 r251 r252 =>
         l_text_reader_number_fault 1 1024 3 r249 r250 r251 r252
          (fun r253 r254 r255 r256 r257 =>
           l_text_reader_want_fault (ByteArray.mk #[10]) r254 r255 r256 r257
            (fun r258 r259 r260 r261 =>
             g38_15 0 r258 r259 r260 r261 0 0 0 0 ([] : List Int) ([] : List Int) 1 r244 2 r253 ([] : List Int) ([] : List Int)))))
      (fun r262 r263 r264 =>
       l_text_reader_want_none (ByteArray.mk #[32]) r263 r264
        (fun r265 r266 r267 r268 =>
         l_text_reader_number_fault 1 1024 3 r265 r266 r267 r268
          (fun r269 r270 r271 r272 r273 =>
           l_text_reader_want_fault (ByteArray.mk #[10]) r270 r271 r272 r273
            (fun r274 r275 r276 r277 =>
             g38_15 0 r274 r275 r276 r277 0 0 0 0 ([] : List Int) ([] : List Int) 1 r262 2 r269 ([] : List Int) ([] : List Int))))
        (fun r278 r279 =>
         l_text_reader_number_none 1 1024 3 r278 r279
          (fun r280 r281 r282 r283 r284 =>
           l_text_reader_want_fault (ByteArray.mk #[10]) r281 r282 r283 r284
            (fun r285 r286 r287 r288 =>
             g38_15 0 r285 r286 r287 r288 0 0 0 0 ([] : List Int) ([] : List Int) 1 r262 2 r280 ([] : List Int) ([] : List Int)))
          (fun r289 r290 r291 =>
           l_text_reader_want_none (ByteArray.mk #[10]) r290 r291
            (fun r292 r293 r294 r295 =>
             g38_15 0 r292 r293 r294 r295 0 0 0 0 ([] : List Int) ([] : List Int) 1 r262 2 r289 ([] : List Int) ([] : List Int))
            (fun r296 r297 =>
             g38_15b 0 r296 r297 0 0 0 0 ([] : List Int) ([] : List Int) 1 r262 2 r289 ([] : List Int) ([] : List Int)))))))

def run_text_reader_read_none {R : Type} (K0 : Int → Int → Int → Int → (List Int) → Int → Int → Int → (List Int) → (List Int) → Option R) (K1 : Int → Int → Int → Int → (List Int) → Int → (List Int) → (List Int) → Option R) : Nat → (Int → (List Int) → Int → Int → Int → Int → Int → Int → Int → (List Int) → (List Int) → Int → Int → Int → Int → (List Int) → (List Int) → Option R) × (Int → (List Int) → Int → Int → Int → Int → Int → (List Int) → (List Int) → Int → Int → Int → Int → (List Int) → (List Int) → Option R) × (Int → (List Int) → Int → Int → Int → Int → Int → Int → Int → (List Int) → (List Int) → Int → Int → Int → Int → (List Int) → (List Int) → Option R) × (Int → (List Int) → Int → Int → Int → Int → Int → (List Int) → (List Int) → Int → Int → Int → Int → (List Int) → (List Int) → Option R) × (Int → Int → (List Int) → Int → Int → Int → Int → Int → Int → Int → (List Int) → (List Int) → Int → Int → Int → Int → (List Int) → (List Int) → Option R) × (Int → Int → (List Int) → Int → Int → Int → Int → Int → (List Int) → (List Int) → Int → Int → Int → Int → (List Int) → (List Int) → Option R) × (Int → Int → (List Int) → Int → Int → Int → Int → Int → Int → Int → (List Int) → (List Int) → Int → Int → Int → Int → (List Int) → (List Int) → Option R) × (Int → Int → (List Int) → Int → Int → Int → Int → Int → (List Int) → (List Int) → Int → Int → Int → Int → (List Int) → (List Int) → Option R) × (Int → Int → (List Int) → Int → Int → Int → Int → Int → Int → Int → (List Int) → (List Int) → Int → Int → Int → Int → (List Int) → (List Int) → Option R) × (Int → Int → (List Int) → Int → Int → Int → Int → Int → (List Int) → (List Int) → Int → Int → Int → Int → (List Int) → (List Int) → Option R)
  | 0 => (fun _ _ _ _ _ _ _ _ _ _ _ _ _ _ _ _ _ => none, fun _ _ _ _ _ _ _ _ _ _ _ _ _ _ _ => none, fun _ _ _ _ _ _ _ _ _ _ _ _ _ _ _ _ _ => none, fun _ _ _ _ _ _ _ _ _ _ _ _ _ _ _ => none, fun _ _ _ _ _ _ _ _ _ _ _ _ _ _ _ _ _ _ => none, fun _ _ _ _ _ _ _ _ _ _ _ _ _ _ _ _ => none, fun _ _ _ _ _ _ _ _ _ _ _ _ _ _ _ _ _ _ => none, fun _ _ _ _ _ _ _ _ _ _ _ _ _ _ _ _ => none, fun _ _ _ _ _ _ _ _ _ _ _ _ _ _ _ _ _ _ => none, fun _ _ _ _ _ _ _ _ _ _ _ _ _ _ _ _ => none)
  | n + 1 => (s_text_reader_read_none_15a (run_text_reader_read_none K0 K1 n).1 (run_text_reader_read_none K0 K1 n).2.1 (run_text_reader_read_none K0 K1 n).2.2.1 (run_text_reader_read_none K0 K1 n).2.2.2.1 (run_text_reader_read_none K0 K1 n).2.2.2.2.1 (run_text_reader_read_none K0 K1 n).2.2.2.2.2.1 (run_text_reader_read_none K0 K1 n).2.2.2.2.2.2.1 (run_text_reader_read_none K0 K1 n).2.2.2.2.2.2.2.1 (run_text_reader_read_none K0 K1 n).2.2.2.2.2.2.2.2.1 (run_text_reader_read_none K0 K1 n).2.2.2.2.2.2.2.2.2 K0 K1, s_text_reader_read_none_15b (run_text_reader_read_none K0 K1 n).1 (run_text_reader_read_none K0 K1 n).2.1 (run_text_reader_read_none K0 K1 n).2.2.1 (run_text_reader_read_none K0 K1 n).2.2.2.1 (run_text_reader_read_none K0 K1 n).2.2.2.2.1 (run_text_reader_read_none K0 K1 n).2.2.2.2.2.1 (run_text_reader_read_none K0 K1 n).2.2.2.2.2.2.1 (run_text_reader_read_none K0 K1 n).2.2.2.2.2.2.2.1 (run_text_reader_read_none K0 K1 n).2.2.2.2.2.2.2.2.1 (run_text_reader_read_none K0 K1 n).2.2.2.2.2.2.2.2.2 K0 K1, s_text_reader_read_none_19a (run_text_reader_read_none K0 K1 n).1 (run_text_reader_read_none K0 K1 n).2.1 (run_text_reader_read_none K0 K1 n).2.2.1 (run_text_reader_read_none K0 K1 n).2.2.2.1 (run_text_reader_read_none K0 K1 n).2.2.2.2.1 (run_text_reader_read_none K0 K1 n).2.2.2.2.2.1 (run_text_reader_read_none K0 K1 n).2.2.2.2.2.2.1 (run_text_reader_read_none K0 K1 n).2.2.2.2.2.2.2.1 (run_text_reader_read_none K0 K1 n).2.2.2.2.2.2.2.2.1 (run_text_reader_read_none K0 K1 n).2.2.2.2.2.2.2.2.2 K0 K1, s_text_reader_read_none_19b (run_text_reader_read_none K0 K1 n).1 (run_text_reader_read_none K0 K1 n).2.1 (run_text_reader_read_none K0 K1 n).2.2.1 (run_text_reader_read_none K0 K1 n).2.2.2.1 (run_text_reader_read_none K0 K1 n).2.2.2.2.1 (run_text_reader_read_none K0 K1 n).2.2.2.2.2.1 (run_text_reader_read_none K0 K1 n).2.2.2.2.2.2.1 (run_text_reader_read_none K0 K1 n).2.2.2.2.2.2.2.1 (run_text_reader_read_none K0 K1 n).2.2.2.2.2.2.2.2.1 (run_text_reader_read_none K0 K1 n).2.2.2.2.2.2.2.2.2 K0 K1, s_text_reader_read_none_20a (run_text_reader_read_none K0 K1 n).1 (run_text_reader_read_none K0 K1 n).2.1 (run_text_reader_read_none K0 K1 n).2.2.1 (run_text_reader_read_none K0 K1 n).2.2.2.1 (run_text_reader_read_none K0 K1 n).2.2.2.2.1 (run_text_reader_read_none K0 K1 n).2.2.2.2.2.1 (run_text_reader_read_none K0 K1 n).2.2.2.2.2.2.1 (run_text_reader_read_none K0 K1 n).2.2.2.2.2.2.2.1 (run_text_reader_read_none K0 K1 n).2.2.2.2.2.2.2.2.1 (run_text_reader_read_none K0 K1 n).2.2.2.2.2.2.2.2.2 K0 K1, s_text_reader_read_none_20b (run_text_reader_read_none K0 K1 n).1 (run_text_reader_read_none K0 K1 n).2.1 (run_text_reader_read_none K0 K1 n).2.2.1 (run_text_reader_read_none K0 K1 n).2.2.2.1 (run_text_reader_read_none K0 K1 n).2.2.2.2.1 (run_text_reader_read_none K0 K1 n).2.2.2.2.2.1 (run_text_reader_read_none K0 K1 n).2.2.2.2.2.2.1 (run_text_reader_read_none K0 K1 n).2.2.2.2.2.2.2.1 (run_text_reader_read_none K0 K1 n).2.2.2.2.2.2.2.2.1 (run_text_reader_read_none K0 K1 n).2.2.2.2.2.2.2.2.2 K0 K1, s_text_reader_read_none_25a (run_text_reader_read_none K0 K1 n).1 (run_text_reader_read_none K0 K1 n).2.1 (run_text_reader_read_none K0 K1 n).2.2.1 (run_text_reader_read_none K0 K1 n).2.2.2.1 (run_text_reader_read_none K0 K1 n).2.2.2.2.1 (run_text_reader_read_none K0 K1 n).2.2.2.2.2.1 (run_text_reader_read_none K0 K1 n).2.2.2.2.2.2.1 (run_text_reader_read_none K0 K1 n).2.2.2.2.2.2.2.1 (run_text_reader_read_none K0 K1 n).2.2.2.2.2.2.2.2.1 (run_text_reader_read_none K0 K1 n).2.2.2.2.2.2.2.2.2 K0 K1, s_text_reader_read_none_25b (run_text_reader_read_none K0 K1 n).1 (run_text_reader_read_none K0 K1 n).2.1 (run_text_reader_read_none K0 K1 n).2.2.1 (run_text_reader_read_none K0 K1 n).2.2.2.1 (run_text_reader_read_none K0 K1 n).2.2.2.2.1 (run_text_reader_read_none K0 K1 n).2.2.2.2.2.1 (run_text_reader_read_none K0 K1 n).2.2.2.2.2.2.1 (run_text_reader_read_none K0 K1 n).2.2.2.2.2.2.2.1 (run_text_reader_read_none K0 K1 n).2.2.2.2.2.2.2.2.1 (run_text_reader_read_none K0 K1 n).2.2.2.2.2.2.2.2.2 K0 K1, s_text_reader_read_none_21a (run_text_reader_read_none K0 K1 n).1 (run_text_reader_read_none K0 K1 n).2.1 (run_text_reader_read_none K0 K1 n).2.2.1 (run_text_reader_read_none K0 K1 n).2.2.2.1 (run_text_reader_read_none K0 K1 n).2.2.2.2.1 (run_text_reader_read_none K0 K1 n).2.2.2.2.2.1 (run_text_reader_read_none K0 K1 n).2.2.2.2.2.2.1 (run_text_reader_read_none K0 K1 n).2.2.2.2.2.2.2.1 (run_text_reader_read_none K0 K1 n).2.2.2.2.2.2.2.2.1 (run_text_reader_read_none K0 K1 n).2.2.2.2.2.2.2.2.2 K0 K1, s_text_reader_read_none_21b (run_text_reader_read_none K0 K1 n).1 (run_text_reader_read_none K0 K1 n).2.1 (run_text_reader_read_none K0 K1 n).2.2.1 (run_text_reader_read_none K0 K1 n).2.2.2.1 (run_text_reader_read_none K0 K1 n).2.2.2.2.1 (run_text_reader_read_none K0 K1 n).2.2.2.2.2.1 (run_text_reader_read_none K0 K1 n).2.2.2.2.2.2.1 (run_text_reader_read_none K0 K1 n).2.2.2.2.2.2.2.1 (run_text_reader_read_none K0 K1 n).2.2.2.2.2.2.2.2.1 (run_text_reader_read_none K0 K1 n).2.2.2.2.2.2.2.2.2 K0 K1)

def l_text_reader_read_none {R : Type} (o0 : List Int) (o0_1 : Int) (K0 : Int → Int → Int → Int → (List Int) → Int → Int → Int → (List Int) → (List Int) → Option R) (K1 : Int → Int → Int → Int → (List Int) → Int → (List Int) → (List Int) → Option R) : Option R := evl fun fuel => e_text_reader_read_none (run_text_reader_read_none K0 K1 fuel).1 (run_text_reader_read_none K0 K1 fuel).2.1 (run_text_reader_read_none K0 K1 fuel).2.2.1 (run_text_reader_read_none K0 K1 fuel).2.2.2.1 (run_text_reader_read_none K0 K1 fuel).2.2.2.2.1 (run_text_reader_read_none K0 K1 fuel).2.2.2.2.2.1 (run_text_reader_read_none K0 K1 fuel).2.2.2.2.2.2.1 (run_text_reader_read_none K0 K1 fuel).2.2.2.2.2.2.2.1 (run_text_reader_read_none K0 K1 fuel).2.2.2.2.2.2.2.2.1 (run_text_reader_read_none K0 K1 fuel).2.2.2.2.2.2.2.2.2 K0 K1 o0 o0_1

theorem ok_text_reader_read_none {R : Type} (o0 : List Int) (o0_1 : Int) (K0 : Int → Int → Int → Int → (List Int) → Int → Int → Int → (List Int) → (List Int) → Option R) (K1 : Int → Int → Int → Int → (List Int) → Int → (List Int) → (List Int) → Option R) {r : R} (h : l_text_reader_read_none o0 o0_1 K0 K1 = some r) : ∃ fuel, e_text_reader_read_none (run_text_reader_read_none K0 K1 fuel).1 (run_text_reader_read_none K0 K1 fuel).2.1 (run_text_reader_read_none K0 K1 fuel).2.2.1 (run_text_reader_read_none K0 K1 fuel).2.2.2.1 (run_text_reader_read_none K0 K1 fuel).2.2.2.2.1 (run_text_reader_read_none K0 K1 fuel).2.2.2.2.2.1 (run_text_reader_read_none K0 K1 fuel).2.2.2.2.2.2.1 (run_text_reader_read_none K0 K1 fuel).2.2.2.2.2.2.2.1 (run_text_reader_read_none K0 K1 fuel).2.2.2.2.2.2.2.2.1 (run_text_reader_read_none K0 K1 fuel).2.2.2.2.2.2.2.2.2 K0 K1 o0 o0_1 = some r := evl_ok h

theorem st_text_reader_read_none_15a {R : Type} (K0 : Int → Int → Int → Int → (List Int) → Int → Int → Int → (List Int) → (List Int) → Option R) (K1 : Int → Int → Int → Int → (List Int) → Int → (List Int) → (List Int) → Option R) (fuel : Nat) (s : Int) (o0 : List Int) (o0_1 o1 o1_1 o2 o2_1 o2_2 o2_3 : Int) (o3 o4 : List Int) (o5 o5_1 o5_2 o5_3 : Int) (o6 o7 : List Int) : (run_text_reader_read_none K0 K1 (fuel + 1)).1 s o0 o0_1 o1 o1_1 o2 o2_1 o2_2 o2_3 o3 o4 o5 o5_1 o5_2 o5_3 o6 o7 = s_text_reader_read_none_15a (run_text_reader_read_none K0 K1 fuel).1 (run_text_reader_read_none K0 K1 fuel).2.1 (run_text_reader_read_none K0 K1 fuel).2.2.1 (run_text_reader_read_none K0 K1 fuel).2.2.2.1 (run_text_reader_read_none K0 K1 fuel).2.2.2.2.1 (run_text_reader_read_none K0 K1 fuel).2.2.2.2.2.1 (run_text_reader_read_none K0 K1 fuel).2.2.2.2.2.2.1 (run_text_reader_read_none K0 K1 fuel).2.2.2.2.2.2.2.1 (run_text_reader_read_none K0 K1 fuel).2.2.2.2.2.2.2.2.1 (run_text_reader_read_none K0 K1 fuel).2.2.2.2.2.2.2.2.2 K0 K1 s o0 o0_1 o1 o1_1 o2 o2_1 o2_2 o2_3 o3 o4 o5 o5_1 o5_2 o5_3 o6 o7 := rfl

theorem st_text_reader_read_none_15b {R : Type} (K0 : Int → Int → Int → Int → (List Int) → Int → Int → Int → (List Int) → (List Int) → Option R) (K1 : Int → Int → Int → Int → (List Int) → Int → (List Int) → (List Int) → Option R) (fuel : Nat) (s : Int) (o0 : List Int) (o0_1 o1 o1_1 o1_2 o1_3 : Int) (o2 o3 : List Int) (o4 o4_1 o4_2 o4_3 : Int) (o5 o6 : List Int) : (run_text_reader_read_none K0 K1 (fuel + 1)).2.1 s o0 o0_1 o1 o1_1 o1_2 o1_3 o2 o3 o4 o4_1 o4_2 o4_3 o5 o6 = s_text_reader_read_none_15b (run_text_reader_read_none K0 K1 fuel).1 (run_text_reader_read_none K0 K1 fuel).2.1 (run_text_reader_read_none K0 K1 fuel).2.2.1 (run_text_reader_read_none K0 K1 fuel).2.2.2.1 (run_text_reader_read_none K0 K1 fuel).2.2.2.2.1 (run_text_reader_read_none K0 K1 fuel).2.2.2.2.2.1 (run_text_reader_read_none K0 K1 fuel).2.2.2.2.2.2.1 (run_text_reader_read_none K0 K1 fuel).2.2.2.2.2.2.2.1 (run_text_reader_read_none K0 K1 fuel).2.2.2.2.2.2.2.2.1 (run_text_reader_read_none K0 K1 fuel).2.2.2.2.2.2.2.2.2 K0 K1 s o0 o0_1 o1 o1_1 o1_2 o1_3 o2 o3 o4 o4_1 o4_2 o4_3 o5 o6 := rfl

theorem st_text_reader_read_none_19a {R : Type} (K0 : Int → Int → Int → Int → (List Int) → Int → Int → Int → (List Int) → (List Int) → Option R) (K1 : Int → Int → Int → Int → (List Int) → Int → (List Int) → (List Int) → Option R) (fuel : Nat) (s : Int) (o0 : List Int) (o0_1 o1 o1_1 o2 o2_1 o2_2 o2_3 : Int) (o3 o4 : List Int) (o5 o5_1 o5_2 o5_3 : Int) (o6 o7 : List Int) : (run_text_reader_read_none K0 K1 (fuel + 1)).2.2.1 s o0 o0_1 o1 o1_1 o2 o2_1 o2_2 o2_3 o3 o4 o5 o5_1 o5_2 o5_3 o6 o7 = s_text_reader_read_none_19a (run_text_reader_read_none K0 K1 fuel).1 (run_text_reader_read_none K0 K1 fuel).2.1 (run_text_reader_read_none K0 K1 fuel).2.2.1 (run_text_reader_read_none K0 K1 fuel).2.2.2.1 (run_text_reader_read_none K0 K1 fuel).2.2.2.2.1 (run_text_reader_read_none K0 K1 fuel).2.2.2.2.2.1 (run_text_reader_read_none K0 K1 fuel).2.2.2.2.2.2.1 (run_text_reader_read_none K0 K1 fuel).2.2.2.2.2.2.2.1 (run_text_reader_read_none K0 K1 fuel).2.2.2.2.2.2.2.2.1 (run_text_reader_read_none K0 K1 fuel).2.2.2.2.2.2.2.2.2 K0 K1 s o0 o0_1 o1 o1_1 o2 o2_1 o2_2 o2_3 o3 o4 o5 o5_1 o5_2 o5_3 o6 o7 := rfl

theorem st_text_reader_read_none_19b {R : Type} (K0 : Int → Int → Int → Int → (List Int) → Int → Int → Int → (List Int) → (List Int) → Option R) (K1 : Int → Int → Int → Int → (List Int) → Int → (List Int) → (List Int) → Option R) (fuel : Nat) (s : Int) (o0 : List Int) (o0_1 o1 o1_1 o1_2 o1_3 : Int) (o2 o3 : List Int) (o4 o4_1 o4_2 o4_3 : Int) (o5 o6 : List Int) : (run_text_reader_read_none K0 K1 (fuel + 1)).2.2.2.1 s o0 o0_1 o1 o1_1 o1_2 o1_3 o2 o3 o4 o4_1 o4_2 o4_3 o5 o6 = s_text_reader_read_none_19b (run_text_reader_read_none K0 K1 fuel).1 (run_text_reader_read_none K0 K1 fuel).2.1 (run_text_reader_read_none K0 K1 fuel).2.2.1 (run_text_reader_read_none K0 K1 fuel).2.2.2.1 (run_text_reader_read_none K0 K1 fuel).2.2.2.2.1 (run_text_reader_read_none K0 K1 fuel).2.2.2.2.2.1 (run_text_reader_read_none K0 K1 fuel).2.2.2.2.2.2.1 (run_text_reader_read_none K0 K1 fuel).2.2.2.2.2.2.2.1 (run_text_reader_read_none K0 K1 fuel).2.2.2.2.2.2.2.2.1 (run_text_reader_read_none K0 K1 fuel).2.2.2.2.2.2.2.2.2 K0 K1 s o0 o0_1 o1 o1_1 o1_2 o1_3 o2 o3 o4 o4_1 o4_2 o4_3 o5 o6 := rfl

theorem st_text_reader_read_none_20a {R : Type} (K0 : Int → Int → Int → Int → (List Int) → Int → Int → Int → (List Int) → (List Int) → Option R) (K1 : Int → Int → Int → Int → (List Int) → Int → (List Int) → (List Int) → Option R) (fuel : Nat) (s x : Int) (o0 : List Int) (o0_1 o1 o1_1 o2 o2_1 o2_2 o2_3 : Int) (o3 o4 : List Int) (o5 o5_1 o5_2 o5_3 : Int) (o6 o7 : List Int) : (run_text_reader_read_none K0 K1 (fuel + 1)).2.2.2.2.1 s x o0 o0_1 o1 o1_1 o2 o2_1 o2_2 o2_3 o3 o4 o5 o5_1 o5_2 o5_3 o6 o7 = s_text_reader_read_none_20a (run_text_reader_read_none K0 K1 fuel).1 (run_text_reader_read_none K0 K1 fuel).2.1 (run_text_reader_read_none K0 K1 fuel).2.2.1 (run_text_reader_read_none K0 K1 fuel).2.2.2.1 (run_text_reader_read_none K0 K1 fuel).2.2.2.2.1 (run_text_reader_read_none K0 K1 fuel).2.2.2.2.2.1 (run_text_reader_read_none K0 K1 fuel).2.2.2.2.2.2.1 (run_text_reader_read_none K0 K1 fuel).2.2.2.2.2.2.2.1 (run_text_reader_read_none K0 K1 fuel).2.2.2.2.2.2.2.2.1 (run_text_reader_read_none K0 K1 fuel).2.2.2.2.2.2.2.2.2 K0 K1 s x o0 o0_1 o1 o1_1 o2 o2_1 o2_2 o2_3 o3 o4 o5 o5_1 o5_2 o5_3 o6 o7 := rfl

theorem st_text_reader_read_none_20b {R : Type} (K0 : Int → Int → Int → Int → (List Int) → Int → Int → Int → (List Int) → (List Int) → Option R) (K1 : Int → Int → Int → Int → (List Int) → Int → (List Int) → (List Int) → Option R) (fuel : Nat) (s x : Int) (o0 : List Int) (o0_1 o1 o1_1 o1_2 o1_3 : Int) (o2 o3 : List Int) (o4 o4_1 o4_2 o4_3 : Int) (o5 o6 : List Int) : (run_text_reader_read_none K0 K1 (fuel + 1)).2.2.2.2.2.1 s x o0 o0_1 o1 o1_1 o1_2 o1_3 o2 o3 o4 o4_1 o4_2 o4_3 o5 o6 = s_text_reader_read_none_20b (run_text_reader_read_none K0 K1 fuel).1 (run_text_reader_read_none K0 K1 fuel).2.1 (run_text_reader_read_none K0 K1 fuel).2.2.1 (run_text_reader_read_none K0 K1 fuel).2.2.2.1 (run_text_reader_read_none K0 K1 fuel).2.2.2.2.1 (run_text_reader_read_none K0 K1 fuel).2.2.2.2.2.1 (run_text_reader_read_none K0 K1 fuel).2.2.2.2.2.2.1 (run_text_reader_read_none K0 K1 fuel).2.2.2.2.2.2.2.1 (run_text_reader_read_none K0 K1 fuel).2.2.2.2.2.2.2.2.1 (run_text_reader_read_none K0 K1 fuel).2.2.2.2.2.2.2.2.2 K0 K1 s x o0 o0_1 o1 o1_1 o1_2 o1_3 o2 o3 o4 o4_1 o4_2 o4_3 o5 o6 := rfl

theorem st_text_reader_read_none_25a {R : Type} (K0 : Int → Int → Int → Int → (List Int) → Int → Int → Int → (List Int) → (List Int) → Option R) (K1 : Int → Int → Int → Int → (List Int) → Int → (List Int) → (List Int) → Option R) (fuel : Nat) (s x : Int) (o0 : List Int) (o0_1 o1 o1_1 o2 o2_1 o2_2 o2_3 : Int) (o3 o4 : List Int) (o5 o5_1 o5_2 o5_3 : Int) (o6 o7 : List Int) : (run_text_reader_read_none K0 K1 (fuel + 1)).2.2.2.2.2.2.1 s x o0 o0_1 o1 o1_1 o2 o2_1 o2_2 o2_3 o3 o4 o5 o5_1 o5_2 o5_3 o6 o7 = s_text_reader_read_none_25a (run_text_reader_read_none K0 K1 fuel).1 (run_text_reader_read_none K0 K1 fuel).2.1 (run_text_reader_read_none K0 K1 fuel).2.2.1 (run_text_reader_read_none K0 K1 fuel).2.2.2.1 (run_text_reader_read_none K0 K1 fuel).2.2.2.2.1 (run_text_reader_read_none K0 K1 fuel).2.2.2.2.2.1 (run_text_reader_read_none K0 K1 fuel).2.2.2.2.2.2.1 (run_text_reader_read_none K0 K1 fuel).2.2.2.2.2.2.2.1 (run_text_reader_read_none K0 K1 fuel).2.2.2.2.2.2.2.2.1 (run_text_reader_read_none K0 K1 fuel).2.2.2.2.2.2.2.2.2 K0 K1 s x o0 o0_1 o1 o1_1 o2 o2_1 o2_2 o2_3 o3 o4 o5 o5_1 o5_2 o5_3 o6 o7 := rfl

theorem st_text_reader_read_none_25b {R : Type} (K0 : Int → Int → Int → Int → (List Int) → Int → Int → Int → (List Int) → (List Int) → Option R) (K1 : Int → Int → Int → Int → (List Int) → Int → (List Int) → (List Int) → Option R) (fuel : Nat) (s x : Int) (o0 : List Int) (o0_1 o1 o1_1 o1_2 o1_3 : Int) (o2 o3 : List Int) (o4 o4_1 o4_2 o4_3 : Int) (o5 o6 : List Int) : (run_text_reader_read_none K0 K1 (fuel + 1)).2.2.2.2.2.2.2.1 s x o0 o0_1 o1 o1_1 o1_2 o1_3 o2 o3 o4 o4_1 o4_2 o4_3 o5 o6 = s_text_reader_read_none_25b (run_text_reader_read_none K0 K1 fuel).1 (run_text_reader_read_none K0 K1 fuel).2.1 (run_text_reader_read_none K0 K1 fuel).2.2.1 (run_text_reader_read_none K0 K1 fuel).2.2.2.1 (run_text_reader_read_none K0 K1 fuel).2.2.2.2.1 (run_text_reader_read_none K0 K1 fuel).2.2.2.2.2.1 (run_text_reader_read_none K0 K1 fuel).2.2.2.2.2.2.1 (run_text_reader_read_none K0 K1 fuel).2.2.2.2.2.2.2.1 (run_text_reader_read_none K0 K1 fuel).2.2.2.2.2.2.2.2.1 (run_text_reader_read_none K0 K1 fuel).2.2.2.2.2.2.2.2.2 K0 K1 s x o0 o0_1 o1 o1_1 o1_2 o1_3 o2 o3 o4 o4_1 o4_2 o4_3 o5 o6 := rfl

theorem st_text_reader_read_none_21a {R : Type} (K0 : Int → Int → Int → Int → (List Int) → Int → Int → Int → (List Int) → (List Int) → Option R) (K1 : Int → Int → Int → Int → (List Int) → Int → (List Int) → (List Int) → Option R) (fuel : Nat) (s x : Int) (o0 : List Int) (o0_1 o1 o1_1 o2 o2_1 o2_2 o2_3 : Int) (o3 o4 : List Int) (o5 o5_1 o5_2 o5_3 : Int) (o6 o7 : List Int) : (run_text_reader_read_none K0 K1 (fuel + 1)).2.2.2.2.2.2.2.2.1 s x o0 o0_1 o1 o1_1 o2 o2_1 o2_2 o2_3 o3 o4 o5 o5_1 o5_2 o5_3 o6 o7 = s_text_reader_read_none_21a (run_text_reader_read_none K0 K1 fuel).1 (run_text_reader_read_none K0 K1 fuel).2.1 (run_text_reader_read_none K0 K1 fuel).2.2.1 (run_text_reader_read_none K0 K1 fuel).2.2.2.1 (run_text_reader_read_none K0 K1 fuel).2.2.2.2.1 (run_text_reader_read_none K0 K1 fuel).2.2.2.2.2.1 (run_text_reader_read_none K0 K1 fuel).2.2.2.2.2.2.1 (run_text_reader_read_none K0 K1 fuel).2.2.2.2.2.2.2.1 (run_text_reader_read_none K0 K1 fuel).2.2.2.2.2.2.2.2.1 (run_text_reader_read_none K0 K1 fuel).2.2.2.2.2.2.2.2.2 K0 K1 s x o0 o0_1 o1 o1_1 o2 o2_1 o2_2 o2_3 o3 o4 o5 o5_1 o5_2 o5_3 o6 o7 := rfl

theorem st_text_reader_read_none_21b {R : Type} (K0 : Int → Int → Int → Int → (List Int) → Int → Int → Int → (List Int) → (List Int) → Option R) (K1 : Int → Int → Int → Int → (List Int) → Int → (List Int) → (List Int) → Option R) (fuel : Nat) (s x : Int) (o0 : List Int) (o0_1 o1 o1_1 o1_2 o1_3 : Int) (o2 o3 : List Int) (o4 o4_1 o4_2 o4_3 : Int) (o5 o6 : List Int) : (run_text_reader_read_none K0 K1 (fuel + 1)).2.2.2.2.2.2.2.2.2 s x o0 o0_1 o1 o1_1 o1_2 o1_3 o2 o3 o4 o4_1 o4_2 o4_3 o5 o6 = s_text_reader_read_none_21b (run_text_reader_read_none K0 K1 fuel).1 (run_text_reader_read_none K0 K1 fuel).2.1 (run_text_reader_read_none K0 K1 fuel).2.2.1 (run_text_reader_read_none K0 K1 fuel).2.2.2.1 (run_text_reader_read_none K0 K1 fuel).2.2.2.2.1 (run_text_reader_read_none K0 K1 fuel).2.2.2.2.2.1 (run_text_reader_read_none K0 K1 fuel).2.2.2.2.2.2.1 (run_text_reader_read_none K0 K1 fuel).2.2.2.2.2.2.2.1 (run_text_reader_read_none K0 K1 fuel).2.2.2.2.2.2.2.2.1 (run_text_reader_read_none K0 K1 fuel).2.2.2.2.2.2.2.2.2 K0 K1 s x o0 o0_1 o1 o1_1 o1_2 o1_3 o2 o3 o4 o4_1 o4_2 o4_3 o5 o6 := rfl

section reading
variable {R : Type} {G : Int → Int → Option R} {K1 : Int → Int → Int → Int → List Int → Int → List Int → List Int → Option R}

abbrev RF {R : Type} (G : Int → Int → Option R) (K1 : Int → Int → Int → Int → List Int → Int → List Int → List Int → Option R) (m : Nat) := run_text_reader_read_none (fun _ _ _ _ _ _ k p _ _ => G k p) K1 m

theorem f15 {s : Int} {o0 : List Int} {a k p z1 z2 z3 z4 : Int} {zn zo : List Int} {c1 c2 c3 c4 : Int} {nx ou : List Int} :
    Reach (fun m => (RF G K1 m).1 s o0 a k p z1 z2 z3 z4 zn zo c1 c2 c3 c4 nx ou) (G k p) := by
  refine .now fun m => ?_
  rw [st_text_reader_read_none_15a]
  unfold s_text_reader_read_none_15a
  exact br_same _

theorem f20 {s x : Int} {o0 : List Int} {a k p z1 z2 z3 z4 : Int} {zn zo : List Int} {c1 c2 c3 c4 : Int} {nx ou : List Int} :
    Reach (fun m => (RF G K1 m).2.2.2.2.1 s x o0 a k p z1 z2 z3 z4 zn zo c1 c2 c3 c4 nx ou) (G k p) := by
  apply Reach.step (k := f15)
  intro m
  rw [st_text_reader_read_none_20a]
  unfold s_text_reader_read_none_20a
  simp only [wantf_eq]
  exact br_same _

theorem f21 {s x : Int} {o0 : List Int} {a k p z1 z2 z3 z4 : Int} {zn zo : List Int} {c1 c2 c3 c4 : Int} {nx ou : List Int} :
    Reach (fun m => (RF G K1 m).2.2.2.2.2.2.2.2.1 s x o0 a k p z1 z2 z3 z4 zn zo c1 c2 c3 c4 nx ou) (G k p) := by
  apply Reach.step (k := f20)
  intro m
  rw [st_text_reader_read_none_21a]
  unfold s_text_reader_read_none_21a
  rfl

theorem f25 {s x : Int} {o0 : List Int} {a k p z1 z2 z3 z4 : Int} {zn zo : List Int} {c1 c2 c3 c4 : Int} {nx ou : List Int} (ho : ou.length ≤ 17000000) :
    Reach (fun m => (RF G K1 m).2.2.2.2.2.2.1 s x o0 a k p z1 z2 z3 z4 zn zo c1 c2 c3 c4 nx ou) (G k p) := by
  by_cases hc : c1 = 2
  · apply Reach.step (k := f21)
    intro m
    rw [st_text_reader_read_none_25a]
    unfold s_text_reader_read_none_25a
    simp only [wantf_eq, numf_eq, twice_eq, both_same]
    rw [br_eq hc, br_pos (by simp [lim]; omega)]
  · apply Reach.step (k := f21)
    intro m
    rw [st_text_reader_read_none_25a]
    unfold s_text_reader_read_none_25a
    rw [br_eq' hc]

theorem f19 {s : Int} {o0 : List Int} {a k p z1 z2 z3 z4 : Int} {zn zo : List Int} {c1 c2 c3 c4 : Int} {nx ou : List Int} :
    Reach (fun m => (RF G K1 m).2.2.1 s o0 a k p z1 z2 z3 z4 zn zo c1 c2 c3 c4 nx ou) (G k p) := by
  apply Reach.step (k := f20)
  intro m
  rw [st_text_reader_read_none_19a]
  unfold s_text_reader_read_none_19a
  rfl

variable {b : List Int} (hb : b.length ≤ 16777216) {z1 z2 z3 z4 : Int} {zn zo : List Int} {k K O N : Int}

include hb in
theorem sh : short b := by unfold short; omega

include hb

/-- Behind the first number of a cell. -/
theorem cell_rest {s x a : Nat} {nx ou : List Int} {F : Nat × List Int × List Int → Rd (Int × Int × Int × Int × List Int × List Int)} {J : Int × Int × Int × Int × List Int × List Int → Option R} (ha : a ≤ b.length) (hn : nx.length ≤ a) (ho : ou.length ≤ a) (hO : 1 ≤ O ∧ O ≤ 64) (hx : x < 70000)
    (next : ∀ a' ou', a' ≤ b.length → nx.length ≤ a' → ou'.length ≤ a' → Reach (fun m => (RF G K1 m).2.2.2.2.2.1 (s : Int) ((x + 1 : Nat) : Int) b (a' : Int) z1 z2 z3 z4 zn zo k K O N nx ou') (outR G J (F (a', nx, ou')))) :
    Reach (fun m => (RF G K1 m).2.2.2.2.2.2.2.1 (s : Int) (x : Int) b (a : Int) z1 z2 z3 z4 zn zo k K O N nx ou)
      (outR G J (bindR (if k = 2 then bindR (wantS [47] b a) fun a2 => bindR (numbS 0 (O - 1) 33 b a2) fun p => .inr (p.2, nx, ou ++ [p.1]) else .inr (a, nx, ou)) F)) := by
  have go : ∀ a' ou', a' ≤ b.length → nx.length ≤ a' → ou'.length ≤ a' → Reach (fun m => (RF G K1 m).2.2.2.2.2.2.2.2.2 (s : Int) (x : Int) b (a' : Int) z1 z2 z3 z4 zn zo k K O N nx ou') (outR G J (F (a', nx, ou'))) := by
    intro a' ou' h1 h2 h3
    refine .step (fun m => ?_) (next a' ou' h1 h2 h3)
    rw [st_text_reader_read_none_21b]
    unfold s_text_reader_read_none_21b
    rw [wr ((x : Int) + 1) (by omega) (by omega)]
    rfl
  by_cases hk : k = 2
  · rw [if_pos hk]
    cases hw : wantS [47] b a with
    | inl e =>
      apply Reach.step (k := f21)
      intro m
      rw [st_text_reader_read_none_25b]
      unfold s_text_reader_read_none_25b
      simp only [twice_eq, both_same]
      rw [br_eq hk, want_bad (s := ByteArray.mk #[47]) (sh hb) (by decide) ha hw]
      simp only [numf_eq]
      rw [br_pos (by simp [lim]; omega)]
    | inr a2 =>
      have ha2 := wantS_le hw ha
      have la2 := (wantS_ok hw).1
      simp only [bindR]
      cases hq : numbS 0 (O - 1) 33 b a2 with
      | inl e =>
        apply Reach.step (k := f21)
        intro m
        rw [st_text_reader_read_none_25b]
        unfold s_text_reader_read_none_25b
        simp only [twice_eq, both_same]
        rw [br_eq hk, want_ok (s := ByteArray.mk #[47]) (sh hb) (by decide) ha hw, wr (O - 1) (by omega) (by omega), num_bad (sh hb) ha2 hq]
        rw [br_pos (by simp [lim]; omega)]
      | inr p =>
        have hp := numbS_le hq ha2
        have lp := numbS_lt hq
        simp only [List.length_cons, List.length_nil] at la2
        refine .step (fun m => ?_) (go p.2 (ou ++ [p.1]) hp (by omega) (by simp; omega))
        rw [st_text_reader_read_none_25b]
        unfold s_text_reader_read_none_25b
        simp only [twice_eq, both_same]
        rw [br_eq hk, want_ok (s := ByteArray.mk #[47]) (sh hb) (by decide) ha hw, wr (O - 1) (by omega) (by omega), num_ok (sh hb) ha2 hq]
        rw [br_pos (by simp [lim]; omega)]
  · rw [if_neg hk]
    refine .step (fun m => ?_) (go a ou ha hn ho)
    rw [st_text_reader_read_none_25b]
    unfold s_text_reader_read_none_25b
    rw [br_eq' hk]

/-- From a cell's first number on. -/
theorem cell_num {s x a : Nat} {nx ou : List Int} {F : Nat × List Int × List Int → Rd (Int × Int × Int × Int × List Int × List Int)} {J : Int × Int × Int × Int × List Int × List Int → Option R} (ha : a ≤ b.length) (hn : nx.length ≤ a) (ho : ou.length ≤ a) (hO : 1 ≤ O ∧ O ≤ 64) (hN : 1 ≤ N ∧ N ≤ 1024) (hx : x < 70000)
    (next : ∀ a' nx' ou', a' ≤ b.length → nx'.length ≤ a' → ou'.length ≤ a' → Reach (fun m => (RF G K1 m).2.2.2.2.2.1 (s : Int) ((x + 1 : Nat) : Int) b (a' : Int) z1 z2 z3 z4 zn zo k K O N nx' ou') (outR G J (F (a', nx', ou')))) :
    Reach (fun m => l_text_reader_number_none 0 (IntKind.i64.wrap (N - 1)) 32 b (a : Int)
        (fun n b' i kk p => bi (decide ((nx.length + [n].length) * 8 ≤ lim)) ((RF G K1 m).2.2.2.2.2.2.1 (s : Int) (x : Int) b' i kk p z1 z2 z3 z4 zn zo k K O N (nx ++ [n]) ou) none)
        (fun n b' i => bi (decide ((nx.length + [n].length) * 8 ≤ lim)) ((RF G K1 m).2.2.2.2.2.2.2.1 (s : Int) (x : Int) b' i z1 z2 z3 z4 zn zo k K O N (nx ++ [n]) ou) none))
      (outR G J (bindR (bindR (numbS 0 (N - 1) 32 b a) fun q => if k = 2 then bindR (wantS [47] b q.2) fun a2 => bindR (numbS 0 (O - 1) 33 b a2) fun p => .inr (p.2, nx ++ [q.1], ou ++ [p.1]) else .inr (q.2, nx ++ [q.1], ou)) F)) := by
  cases hq : numbS 0 (N - 1) 32 b a with
  | inl e =>
    apply Reach.same (k := f25 (K1 := K1) (ou := ou) (by omega))
    intro m
    rw [wr (N - 1) (by omega) (by omega), num_bad (sh hb) ha hq, br_pos (by simp [lim]; omega)]
  | inr q =>
    have hp := numbS_le hq ha
    have lp := numbS_lt hq
    simp only [bindR_inr]
    refine .same (fun m => ?_) (cell_rest hb (a := q.2) (nx := nx ++ [q.1]) (ou := ou) hp (by simp; omega) (by omega) hO hx fun a' ou' h1 h2 h3 => next a' (nx ++ [q.1]) ou' h1 h2 h3)
    rw [wr (N - 1) (by omega) (by omega), num_ok (sh hb) ha hq, br_pos (by simp [lim]; omega)]

theorem cells_run {s : Nat} {F : Nat × List Int × List Int → Rd (Int × Int × Int × Int × List Int × List Int)} {J : Int × Int × Int × Int × List Int × List Int → Option R} (hK : 1 ≤ K ∧ K ≤ 64) (hO : 1 ≤ O ∧ O ≤ 64) (hN : 1 ≤ N ∧ N ≤ 1024)
    (next : ∀ a' nx' ou', a' ≤ b.length → nx'.length ≤ a' → ou'.length ≤ a' → Reach (fun m => (RF G K1 m).2.2.2.2.2.1 (s : Int) K b (a' : Int) z1 z2 z3 z4 zn zo k K O N nx' ou') (outR G J (F (a', nx', ou')))) :
    ∀ (d x a : Nat) (nx ou : List Int), x + d = K.toNat → a ≤ b.length → nx.length ≤ a → ou.length ≤ a →
      Reach (fun m => (RF G K1 m).2.2.2.2.2.1 (s : Int) (x : Int) b (a : Int) z1 z2 z3 z4 zn zo k K O N nx ou) (outR G J (bindR (cellsS k O N b d x a nx ou) F))
  | 0, x, a, nx, ou, hd, ha, hn, ho => by
    have e : (x : Int) = K := by omega
    rw [e]
    exact next a nx ou ha hn ho
  | d + 1, x, a, nx, ou, hd, ha, hn, ho => by
    have hxK : (x : Int) < K := by omega
    have ih := fun a' nx' ou' h1 h2 h3 => cells_run hK hO hN next d (x + 1) a' nx' ou' (by omega) h1 h2 h3
    have eF : bindR (cellsS k O N b (d + 1) x a nx ou) F = bindR (cellS k O N b x a nx ou) fun q => bindR (cellsS k O N b d (x + 1) q.1 q.2.1 q.2.2) F := by
      simp only [cellsS]
      cases cellS k O N b x a nx ou <;> rfl
    rw [eF]
    have body := fun a' nx' ou' h1 h2 h3 => cell_num hb (G := G) (K1 := K1) (z1 := z1) (z2 := z2) (z3 := z3) (z4 := z4) (zn := zn) (zo := zo) (k := k) (K := K) (s := s) (x := x) (a := a') (nx := nx') (ou := ou') (F := fun q => bindR (cellsS k O N b d (x + 1) q.1 q.2.1 q.2.2) F) (J := J) h1 h2 h3 hO hN (by omega) ih
    have eC : ∀ y : Rd Nat, bindR (bindR y fun a1 => bindR (numbS 0 (N - 1) 32 b a1) fun q => if k = 2 then bindR (wantS [47] b q.2) fun a2 => bindR (numbS 0 (O - 1) 33 b a2) fun p => .inr (p.2, nx ++ [q.1], ou ++ [p.1]) else .inr (q.2, nx ++ [q.1], ou)) (fun q => bindR (cellsS k O N b d (x + 1) q.1 q.2.1 q.2.2) F) =
        bindR y fun a1 => bindR (bindR (numbS 0 (N - 1) 32 b a1) fun q => if k = 2 then bindR (wantS [47] b q.2) fun a2 => bindR (numbS 0 (O - 1) 33 b a2) fun p => .inr (p.2, nx ++ [q.1], ou ++ [p.1]) else .inr (q.2, nx ++ [q.1], ou)) (fun q => bindR (cellsS k O N b d (x + 1) q.1 q.2.1 q.2.2) F) := by
      intro y
      cases y <;> rfl
    unfold cellS
    rw [eC]
    have wanted : (0 < x ∨ k = 1) → ∀ (g : Nat → Option R) , (∀ m, g (m + 1) = l_text_reader_want_none (ByteArray.mk #[32]) b (a : Int)
        (fun r314 r315 r316 r317 => bi (decide ((nx.length + [(0 : Int)].length) * 8 ≤ lim)) ((RF G K1 m).2.2.2.2.2.2.1 (s : Int) (x : Int) r314 r315 r316 r317 z1 z2 z3 z4 zn zo k K O N (nx ++ [0]) ou) none)
        (fun r323 r324 => l_text_reader_number_none 0 (IntKind.i64.wrap (N - 1)) 32 r323 r324
          (fun n b' i kk p => bi (decide ((nx.length + [n].length) * 8 ≤ lim)) ((RF G K1 m).2.2.2.2.2.2.1 (s : Int) (x : Int) b' i kk p z1 z2 z3 z4 zn zo k K O N (nx ++ [n]) ou) none)
          (fun n b' i => bi (decide ((nx.length + [n].length) * 8 ≤ lim)) ((RF G K1 m).2.2.2.2.2.2.2.1 (s : Int) (x : Int) b' i z1 z2 z3 z4 zn zo k K O N (nx ++ [n]) ou) none))) →
        Reach g (outR G J (bindR (wantS [32] b a) fun a1 => bindR (bindR (numbS 0 (N - 1) 32 b a1) fun q => if k = 2 then bindR (wantS [47] b q.2) fun a2 => bindR (numbS 0 (O - 1) 33 b a2) fun p => .inr (p.2, nx ++ [q.1], ou ++ [p.1]) else .inr (q.2, nx ++ [q.1], ou)) (fun q => bindR (cellsS k O N b d (x + 1) q.1 q.2.1 q.2.2) F))) := by
      intro _ g hg
      cases hw : wantS [32] b a with
      | inl e =>
        apply Reach.step (k := f25 (K1 := K1) (ou := ou) (by omega))
        intro m
        rw [hg, want_bad (s := ByteArray.mk #[32]) (sh hb) (by decide) ha hw, br_pos (by simp [lim]; omega)]
      | inr a2 =>
        have ha2 := wantS_le hw ha
        have la2 := (wantS_ok hw).1
        simp only [List.length_cons, List.length_nil] at la2
        refine .step (fun m => ?_) (body a2 nx ou ha2 (by omega) (by omega))
        rw [hg, want_ok (s := ByteArray.mk #[32]) (sh hb) (by decide) ha hw]
    by_cases hx0 : 0 < x
    · rw [if_pos (.inl hx0)]
      refine wanted (.inl hx0) _ fun m => ?_
      rw [st_text_reader_read_none_20b]
      unfold s_text_reader_read_none_20b
      simp only [twice_eq, both_same, numf_eq]
      rw [br_pos hxK, br_pos (by omega)]
    · by_cases hk : k = 1
      · rw [if_pos (.inr hk)]
        refine wanted (.inr hk) _ fun m => ?_
        rw [st_text_reader_read_none_20b]
        unfold s_text_reader_read_none_20b
        simp only [twice_eq, both_same, numf_eq]
        rw [br_pos hxK, br_neg (by omega), br_eq hk]
      · rw [if_neg (by omega)]
        refine .step (fun m => ?_) (body a nx ou ha hn ho)
        rw [st_text_reader_read_none_20b]
        unfold s_text_reader_read_none_20b
        simp only [twice_eq, both_same, numf_eq]
        rw [br_pos hxK, br_neg (by omega), br_eq' hk]

omit hb in
theorem bindR_assoc {α β γ : Type} (x : Rd α) (f : α → Rd β) (g : β → Rd γ) : bindR (bindR x f) g = bindR x fun a => bindR (f a) g := by
  cases x <;> rfl

/-- What is said of a text that was read to its end. -/
def endI (k K O N : Int) (b : List Int) (q : Nat × List Int × List Int) : Rd (Int × Int × Int × Int × List Int × List Int) :=
  if q.1 < b.length then .inl (6, (q.1 : Int)) else .inr (k, K, O, N, q.2.1, q.2.2)

theorem rows_run (hK : 1 ≤ K ∧ K ≤ 64) (hO : 1 ≤ O ∧ O ≤ 64) (hN : 1 ≤ N ∧ N ≤ 1024) :
    ∀ (d s a : Nat) (nx ou : List Int), s + d = N.toNat → a ≤ b.length → nx.length ≤ a → ou.length ≤ a →
      Reach (fun m => (RF G K1 m).2.1 (s : Int) b (a : Int) z1 z2 z3 z4 zn zo k K O N nx ou) (outR G (fun m => K1 m.1 m.2.1 m.2.2.1 m.2.2.2.1 b (b.length : Int) m.2.2.2.2.1 m.2.2.2.2.2) (bindR (rowsS k K O N b d a nx ou) (endI k K O N b)))
  | 0, s, a, nx, ou, hd, ha, hn, ho => by
    refine .now fun m => ?_
    rw [st_text_reader_read_none_15b]
    unfold s_text_reader_read_none_15b
    rw [br_neg (by omega)]
    simp only [rowsS, bindR_inr, endI]
    by_cases h : a < b.length
    · rw [br_pos (by omega), if_pos h]
      rfl
    · have e : a = b.length := by omega
      rw [br_neg (by omega), if_neg h, e]
      rfl
  | d + 1, s, a, nx, ou, hd, ha, hn, ho => by
    have hsN : (s : Int) < N := by omega
    have ih := fun a' nx' ou' h1 h2 h3 => rows_run hK hO hN d (s + 1) a' nx' ou' (by omega) h1 h2 h3
    simp only [rowsS, rowS, bindR_assoc, bindR_inr]
    have tail : ∀ a' nx' ou', a' ≤ b.length → nx'.length ≤ a' → ou'.length ≤ a' → Reach (fun m => (RF G K1 m).2.2.2.1 (s : Int) b (a' : Int) z1 z2 z3 z4 zn zo k K O N nx' ou')
        (outR G (fun m => K1 m.1 m.2.1 m.2.2.1 m.2.2.2.1 b (b.length : Int) m.2.2.2.2.1 m.2.2.2.2.2) (bindR (cellsS k O N b K.toNat 0 a' nx' ou') fun q => bindR (wantS [10] b q.1) fun a2 => bindR (rowsS k K O N b d a2 q.2.1 q.2.2) (endI k K O N b))) := by
      intro a' nx' ou' h1 h2 h3
      refine .step (fun m => ?_) (cells_run hb (K1 := K1) (z1 := z1) (z2 := z2) (z3 := z3) (z4 := z4) (zn := zn) (zo := zo) (s := s) hK hO hN ?_ K.toNat 0 a' nx' ou' (by omega) h1 h2 h3)
      · rw [st_text_reader_read_none_19b]
        unfold s_text_reader_read_none_19b
        rfl
      · intro a2 nx2 ou2 g1 g2 g3
        cases hw : wantS [10] b a2 with
        | inl e =>
          apply Reach.step (k := f15 (K1 := K1))
          intro m
          rw [st_text_reader_read_none_20b]
          unfold s_text_reader_read_none_20b
          rw [br_neg (by omega), want_bad (s := ByteArray.mk #[10]) (sh hb) (by decide) g1 hw]
        | inr a3 =>
          have ha3 := wantS_le hw g1
          have la3 := (wantS_ok hw).1
          refine .step (fun m => ?_) (ih a3 nx2 ou2 ha3 (by omega) (by omega))
          rw [st_text_reader_read_none_20b]
          unfold s_text_reader_read_none_20b
          rw [br_neg (by omega), want_ok (s := ByteArray.mk #[10]) (sh hb) (by decide) g1 hw, wr ((s : Int) + 1) (by omega) (by omega)]
          rfl
    unfold leadS
    by_cases hk : k = 1
    · rw [if_pos hk]
      cases hq : numbS 0 1 33 b a with
      | inl e =>
        apply Reach.step (k := f19 (K1 := K1))
        intro m
        rw [st_text_reader_read_none_15b]
        unfold s_text_reader_read_none_15b
        simp only [twice_eq, both_same]
        rw [br_pos hsN, br_eq hk, num_bad (sh hb) ha hq, br_pos (by simp [lim]; omega)]
      | inr q =>
        have hp := numbS_le hq ha
        have lp := numbS_lt hq
        simp only [bindR_inr]
        refine .step (fun m => ?_) (tail q.2 nx (ou ++ [q.1]) hp (by omega) (by simp; omega))
        rw [st_text_reader_read_none_15b]
        unfold s_text_reader_read_none_15b
        simp only [twice_eq, both_same]
        rw [br_pos hsN, br_eq hk, num_ok (sh hb) ha hq, br_pos (by simp [lim]; omega)]
    · rw [if_neg hk]
      simp only [bindR_inr]
      refine .step (fun m => ?_) (tail a nx ou ha hn ho)
      rw [st_text_reader_read_none_15b]
      unfold s_text_reader_read_none_15b
      rw [br_pos hsN, br_eq' hk]

theorem read_eq : l_text_reader_read_none b 0 (fun _ _ _ _ _ _ k p _ _ => G k p) K1 = outR G (fun m => K1 m.1 m.2.1 m.2.2.1 m.2.2.2.1 b (b.length : Int) m.2.2.2.2.1 m.2.2.2.2.2) (readS b) := by
  have hs := sh hb
  refine evl_eq ?_
  have eR : readS b = bindR (headI b) fun h => bindR (rowsS h.1 h.2.1 h.2.2.1 h.2.2.2.1 b h.2.2.2.1.toNat h.2.2.2.2 [] []) (endI h.1 h.2.1 h.2.2.1 h.2.2.2.1 b) := rfl
  rw [eR]
  unfold headI
  have dfa : Reach (fun m => l_text_reader_want_none (ByteArray.mk #[100, 102, 97, 32]) b 0
      (fun r220 r221 r222 r223 => (RF G K1 m).1 0 r220 r221 r222 r223 0 0 0 0 [] [] 1 0 2 0 [] [])
      (fun r242 r243 => l_text_reader_number_none 1 64 1 r242 r243
        (fun r244 r245 r246 r247 r248 => (RF G K1 m).1 0 r245 r246 r247 r248 0 0 0 0 [] [] 1 r244 2 0 [] [])
        (fun r262 r263 r264 => l_text_reader_want_none (ByteArray.mk #[32]) r263 r264
          (fun r265 r266 r267 r268 => (RF G K1 m).1 0 r265 r266 r267 r268 0 0 0 0 [] [] 1 r262 2 0 [] [])
          (fun r278 r279 => l_text_reader_number_none 1 1024 3 r278 r279
            (fun r280 r281 r282 r283 r284 => (RF G K1 m).1 0 r281 r282 r283 r284 0 0 0 0 [] [] 1 r262 2 r280 [] [])
            (fun r289 r290 r291 => l_text_reader_want_none (ByteArray.mk #[10]) r290 r291
              (fun r292 r293 r294 r295 => (RF G K1 m).1 0 r292 r293 r294 r295 0 0 0 0 [] [] 1 r262 2 r289 [] [])
              (fun r296 r297 => (RF G K1 m).2.1 0 r296 r297 0 0 0 0 [] [] 1 r262 2 r289 [] []))))))
      (outR G (fun m => K1 m.1 m.2.1 m.2.2.1 m.2.2.2.1 b (b.length : Int) m.2.2.2.2.1 m.2.2.2.2.2) (bindR (bindR (wantS [100, 102, 97, 32] b 0) fun a0 => bindR (numbS 1 64 1 b a0) fun q1 => bindR (wantS [32] b q1.2) fun a1 =>
        bindR (numbS 1 1024 3 b a1) fun q3 => bindR (wantS [10] b q3.2) fun a3 => .inr (1, q1.1, 2, q3.1, a3)) fun h => bindR (rowsS h.1 h.2.1 h.2.2.1 h.2.2.2.1 b h.2.2.2.1.toNat h.2.2.2.2 [] []) (endI h.1 h.2.1 h.2.2.1 h.2.2.2.1 b))) := by
    cases w0 : wantS [100, 102, 97, 32] b 0 with
    | inl e =>
      apply Reach.same (k := f15 (K1 := K1)); intro m
      exact want_bad (s := ByteArray.mk #[100, 102, 97, 32]) hs (by decide) (Nat.zero_le _) w0 _ _
    | inr a0 =>
      have g0 := wantS_le w0 (Nat.zero_le _)
      have W0 := fun {R : Type} K0 K1 => want_ok (R := R) (s := ByteArray.mk #[100, 102, 97, 32]) hs (by decide) (Nat.zero_le _) w0 K0 K1
      simp only [bindR_inr]
      cases n1 : numbS 1 64 1 b a0 with
      | inl e =>
        apply Reach.same (k := f15 (K1 := K1)); intro m
        exact (W0 _ _).trans (num_bad hs g0 n1 _ _)
      | inr q1 =>
        have g1 := numbS_le n1 g0
        simp only [bindR_inr]
        cases w1 : wantS [32] b q1.2 with
        | inl e =>
          apply Reach.same (k := f15 (K1 := K1)); intro m
          exact (W0 _ _).trans ((num_ok hs g0 n1 _ _).trans (want_bad (s := ByteArray.mk #[32]) hs (by decide) g1 w1 _ _))
        | inr a1 =>
          have g2 := wantS_le w1 g1
          simp only [bindR_inr]
          cases n3 : numbS 1 1024 3 b a1 with
          | inl e =>
            apply Reach.same (k := f15 (K1 := K1)); intro m
            exact (W0 _ _).trans ((num_ok hs g0 n1 _ _).trans ((want_ok (s := ByteArray.mk #[32]) hs (by decide) g1 w1 _ _).trans (num_bad hs g2 n3 _ _)))
          | inr q3 =>
            have g3 := numbS_le n3 g2
            simp only [bindR_inr]
            cases w3 : wantS [10] b q3.2 with
            | inl e =>
              apply Reach.same (k := f15 (K1 := K1)); intro m
              exact (W0 _ _).trans ((num_ok hs g0 n1 _ _).trans ((want_ok (s := ByteArray.mk #[32]) hs (by decide) g1 w1 _ _).trans ((num_ok hs g2 n3 _ _).trans (want_bad (s := ByteArray.mk #[10]) hs (by decide) g3 w3 _ _))))
            | inr a3 =>
              have g4 := wantS_le w3 g3
              simp only [bindR_inr]
              obtain ⟨_, _, k1, k2⟩ := numbS_ok n1
              obtain ⟨_, _, k3, k4⟩ := numbS_ok n3
              refine .same (fun m => ?_) (rows_run hb (z1 := 0) (z2 := 0) (z3 := 0) (z4 := 0) (zn := []) (zo := []) (k := 1) (K := q1.1) (O := 2) (N := q3.1) ⟨k1, k2⟩ ⟨by omega, by omega⟩ ⟨k3, k4⟩ q3.1.toNat 0 a3 [] [] (by omega) g4 (by simp) (by simp))
              exact (W0 _ _).trans ((num_ok hs g0 n1 _ _).trans ((want_ok (s := ByteArray.mk #[32]) hs (by decide) g1 w1 _ _).trans ((num_ok hs g2 n3 _ _).trans (want_ok (s := ByteArray.mk #[10]) hs (by decide) g3 w3 _ _))))
  by_cases h0 : b[0]? = some 109
  · rw [if_pos h0]
    have hlt : 0 < b.length := (List.getElem?_eq_some_iff.1 h0).1
    have e0 : b.getD 0 0 = 109 := by rw [List.getD_eq_getElem?_getD, h0]; rfl
    cases w0 : wantS [109, 101, 97, 108, 121, 32] b 0 with
    | inl e =>
      apply Reach.same (k := f15 (K1 := K1)); intro m
      unfold e_text_reader_read_none
      simp only [wantf_eq, numf_eq]
      rw [br_pos (by omega), br_pos (by omega), br_eq e0]
      exact want_bad (s := ByteArray.mk #[109, 101, 97, 108, 121, 32]) hs (by decide) (Nat.zero_le _) w0 _ _
    | inr a0 =>
      have g0 := wantS_le w0 (Nat.zero_le _)
      have W0 := fun {R : Type} K0 K1 => want_ok (R := R) (s := ByteArray.mk #[109, 101, 97, 108, 121, 32]) hs (by decide) (Nat.zero_le _) w0 K0 K1
      simp only [bindR_inr]
      cases n1 : numbS 1 64 1 b a0 with
      | inl e =>
        apply Reach.same (k := f15 (K1 := K1)); intro m
        unfold e_text_reader_read_none
        simp only [wantf_eq, numf_eq]
        rw [br_pos (by omega), br_pos (by omega), br_eq e0]
        exact (W0 _ _).trans (num_bad hs g0 n1 _ _)
      | inr q1 =>
        have g1 := numbS_le n1 g0
        simp only [bindR_inr]
        cases w1 : wantS [32] b q1.2 with
        | inl e =>
          apply Reach.same (k := f15 (K1 := K1)); intro m
          unfold e_text_reader_read_none
          simp only [wantf_eq, numf_eq]
          rw [br_pos (by omega), br_pos (by omega), br_eq e0]
          exact (W0 _ _).trans ((num_ok hs g0 n1 _ _).trans (want_bad (s := ByteArray.mk #[32]) hs (by decide) g1 w1 _ _))
        | inr a1 =>
          have g2 := wantS_le w1 g1
          simp only [bindR_inr]
          cases n2 : numbS 1 64 33 b a1 with
          | inl e =>
            apply Reach.same (k := f15 (K1 := K1)); intro m
            unfold e_text_reader_read_none
            simp only [wantf_eq, numf_eq]
            rw [br_pos (by omega), br_pos (by omega), br_eq e0]
            exact (W0 _ _).trans ((num_ok hs g0 n1 _ _).trans ((want_ok (s := ByteArray.mk #[32]) hs (by decide) g1 w1 _ _).trans (num_bad hs g2 n2 _ _)))
          | inr q2 =>
            have g3 := numbS_le n2 g2
            simp only [bindR_inr]
            cases w2 : wantS [32] b q2.2 with
            | inl e =>
              apply Reach.same (k := f15 (K1 := K1)); intro m
              unfold e_text_reader_read_none
              simp only [wantf_eq, numf_eq]
              rw [br_pos (by omega), br_pos (by omega), br_eq e0]
              exact (W0 _ _).trans ((num_ok hs g0 n1 _ _).trans ((want_ok (s := ByteArray.mk #[32]) hs (by decide) g1 w1 _ _).trans ((num_ok hs g2 n2 _ _).trans (want_bad (s := ByteArray.mk #[32]) hs (by decide) g3 w2 _ _))))
            | inr a2 =>
              have g4 := wantS_le w2 g3
              simp only [bindR_inr]
              cases n3 : numbS 1 1024 3 b a2 with
              | inl e =>
                apply Reach.same (k := f15 (K1 := K1)); intro m
                unfold e_text_reader_read_none
                simp only [wantf_eq, numf_eq]
                rw [br_pos (by omega), br_pos (by omega), br_eq e0]
                exact (W0 _ _).trans ((num_ok hs g0 n1 _ _).trans ((want_ok (s := ByteArray.mk #[32]) hs (by decide) g1 w1 _ _).trans ((num_ok hs g2 n2 _ _).trans ((want_ok (s := ByteArray.mk #[32]) hs (by decide) g3 w2 _ _).trans (num_bad hs g4 n3 _ _)))))
              | inr q3 =>
                have g5 := numbS_le n3 g4
                simp only [bindR_inr]
                cases w3 : wantS [10] b q3.2 with
                | inl e =>
                  apply Reach.same (k := f15 (K1 := K1)); intro m
                  unfold e_text_reader_read_none
                  simp only [wantf_eq, numf_eq]
                  rw [br_pos (by omega), br_pos (by omega), br_eq e0]
                  exact (W0 _ _).trans ((num_ok hs g0 n1 _ _).trans ((want_ok (s := ByteArray.mk #[32]) hs (by decide) g1 w1 _ _).trans ((num_ok hs g2 n2 _ _).trans ((want_ok (s := ByteArray.mk #[32]) hs (by decide) g3 w2 _ _).trans ((num_ok hs g4 n3 _ _).trans (want_bad (s := ByteArray.mk #[10]) hs (by decide) g5 w3 _ _))))))
                | inr a3 =>
                  have g6 := wantS_le w3 g5
                  simp only [bindR_inr]
                  obtain ⟨_, _, k1, k2⟩ := numbS_ok n1
                  obtain ⟨_, _, k3, k4⟩ := numbS_ok n2
                  obtain ⟨_, _, k5, k6⟩ := numbS_ok n3
                  refine .same (fun m => ?_) (rows_run hb (z1 := 0) (z2 := 0) (z3 := 0) (z4 := 0) (zn := []) (zo := []) (k := 2) (K := q1.1) (O := q2.1) (N := q3.1) ⟨k1, k2⟩ ⟨k3, k4⟩ ⟨k5, k6⟩ q3.1.toNat 0 a3 [] [] (by omega) g6 (by simp) (by simp))
                  unfold e_text_reader_read_none
                  simp only [wantf_eq, numf_eq]
                  rw [br_pos (by omega), br_pos (by omega), br_eq e0]
                  exact (W0 _ _).trans ((num_ok hs g0 n1 _ _).trans ((want_ok (s := ByteArray.mk #[32]) hs (by decide) g1 w1 _ _).trans ((num_ok hs g2 n2 _ _).trans ((want_ok (s := ByteArray.mk #[32]) hs (by decide) g3 w2 _ _).trans ((num_ok hs g4 n3 _ _).trans (want_ok (s := ByteArray.mk #[10]) hs (by decide) g5 w3 _ _))))))
  · rw [if_neg h0]
    refine .same (fun m => ?_) dfa
    unfold e_text_reader_read_none
    simp only [wantf_eq, numf_eq]
    by_cases hl : 0 < b.length
    · have e0 : ¬ b.getD 0 0 = 109 := by
        intro h
        apply h0
        rw [List.getElem?_eq_getElem hl]
        rw [getD_of 0 hl] at h
        rw [h]
      rw [br_pos (by omega), br_pos (by omega), br_eq' e0]
    · rw [br_neg (by omega)]
end reading

abbrev LT_errors_As_fault_nil := {R : Type} → Int → Int → (Int → Int → Option R) → Option R
/-- errors.As -/
def l_errors_As_fault_nil {R : Type} (o0 : Int) (o0_1 : Int) (K0 : Int → Int → Option R) : Option R := K0 o0 o0_1

abbrev LT_errors_As_none_fault_nil := {R : Type} → (Option R) → Option R
/-- errors.As -/
def l_errors_As_none_fault_nil {R : Type}  (K0 : Option R) : Option R := K0 

abbrev LT_text_Import := {R : Type} → (List Int) → (Int → Int → Int → Int → Int → Int → (List Int) → (List Int) → Option R) → Option R
/-- tutor/text.Import -/
def l_text_Import {R : Type} (b : List Int) (K0 : Int → Int → Int → Int → Int → Int → (List Int) → (List Int) → Option R) : Option R :=
  bi (decide ((b.length : Int) > 16777216))
   (K0 0 0 0 0 2 0 ([] : List Int) ([] : List Int))
   (l_text_reader_read_none b 0
    (fun r1 r2 r3 r4 r5 r6 r7 r8 r9 r10 =>
     l_errors_As_fault_nil r7 r8
      (fun r11 r12 =>
       both
        (both
         (both
          (thrice
           (K0 0 0 0 0 r11 r12 ([] : List Int) ([] : List Int)))
          (both
           (twice
            (K0 0 0 0 0 r11 r12 ([] : List Int) ([] : List Int)))
           (K0 0 0 0 0 r11 r12 ([] : List Int) ([] : List Int))))
         (both
          (both
           (thrice
            (K0 0 0 0 0 r11 r12 ([] : List Int) ([] : List Int)))
           (both
            (twice
             (K0 0 0 0 0 r11 r12 ([] : List Int) ([] : List Int)))
            (both
             (twice
              (K0 0 0 0 0 r11 r12 ([] : List Int) ([] : List Int)))
             (K0 0 0 0 0 r11 r12 ([] : List Int) ([] : List Int)))))
          (twice
           (both
            (twice
             (K0 0 0 0 0 r11 r12 ([] : List Int) ([] : List Int)))
            (K0 0 0 0 0 r11 r12 ([] : List Int) ([] : List Int))))))
        (both
         (both
          (both
           (thrice
            (K0 0 0 0 0 r11 r12 ([] : List Int) ([] : List Int)))
           (both
            (twice
             (K0 0 0 0 0 r11 r12 ([] : List Int) ([] : List Int)))
            (both
             (twice
              (K0 0 0 0 0 r11 r12 ([] : List Int) ([] : List Int)))
             (K0 0 0 0 0 r11 r12 ([] : List Int) ([] : List Int)))))
          (both
           (both
            (twice
             (K0 0 0 0 0 r11 r12 ([] : List Int) ([] : List Int)))
            (K0 0 0 0 0 r11 r12 ([] : List Int) ([] : List Int)))
           (both
            (both
             (twice
              (K0 0 0 0 0 r11 r12 ([] : List Int) ([] : List Int)))
             (K0 0 0 0 0 r11 r12 ([] : List Int) ([] : List Int)))
            (K0 0 0 0 0 r11 r12 ([] : List Int) ([] : List Int)))))
         (both
          (twice
           (both
            (twice
             (K0 0 0 0 0 r11 r12 ([] : List Int) ([] : List Int)))
            (K0 0 0 0 0 r11 r12 ([] : List Int) ([] : List Int))))
          (both
           (both
            (twice
             (K0 0 0 0 0 r11 r12 ([] : List Int) ([] : List Int)))
            (K0 0 0 0 0 r11 r12 ([] : List Int) ([] : List Int)))
           (K0 0 0 0 0 r11 r12 ([] : List Int) ([] : List Int)))))))
    (fun r13 r14 r15 r16 r17 r18 r19 r20 =>
     l_errors_As_none_fault_nil
      (K0 r13 r14 r15 r16 0 (b.length : Int) r19 r20)))

theorem import_eq {R : Type} (b : List Int) (K0 : Int → Int → Int → Int → Int → Int → List Int → List Int → Option R) :
    l_text_Import b K0 = K0 (impS b).k (impS b).K (impS b).O (impS b).N (impS b).e (impS b).p (impS b).nx (impS b).ou := by
  unfold l_text_Import impS
  by_cases h : (b.length : Int) > 16777216
  · rw [br_pos h, if_pos h]
  · rw [br_neg h, if_neg h]
    simp only [l_errors_As_fault_nil, l_errors_As_none_fault_nil, both_same, twice_eq, thrice_eq]
    rw [read_eq (G := fun k p => K0 0 0 0 0 k p [] []) (by omega)]
    cases readS b <;> rfl

abbrev LT_tutorlaw08_num := {R : Type} → Int → (Int → Option R) → Option R
/-- tutor/tutorlaw08.num -/
def l_tutorlaw08_num {R : Type} (e : Int) (K0 : Int → Option R) : Option R :=
  K0 e

abbrev LT_tutorref01_Same := {R : Type} → (List Int) → (List Int) → (Bool → Option R) → Option R
abbrev GT_tutorref01_Same_4 (R : Type) := (List Int) → (List Int) → Int → Option R
/-- tutor/tutorref01.Same -/
def s_tutorref01_Same_4 {R : Type} (g37_4 : GT_tutorref01_Same_4 R) (K0 : Bool → Option R) (a b : List Int) (i : Int) : Option R :=
  bi (decide (i < (a.length : Int)))
   (bi (decide (0 ≤ i ∧ i < ((a.length : Nat) : Int)))
    (bi (decide (0 ≤ i ∧ i < ((b.length : Nat) : Int)))
     (bi ((a.getD i.toNat 0) != (b.getD i.toNat 0))
      (K0 false)
      (g37_4 a b (IntKind.i64.wrap (i + 1))))
     none)
    none)
   (K0 true)

/-- tutor/tutorref01.Same -/
def e_tutorref01_Same {R : Type} (g37_4 : GT_tutorref01_Same_4 R) (K0 : Bool → Option R) (a b : List Int) : Option R :=
  bi ((a.length : Int) != (b.length : Int))
   (K0 false)
   (g37_4 a b 0)

def run_tutorref01_Same {R : Type} (K0 : Bool → Option R) : Nat → (List Int) → (List Int) → Int → Option R
  | 0 => fun _ _ _ => none
  | n + 1 => s_tutorref01_Same_4 (run_tutorref01_Same K0 n) K0

def l_tutorref01_Same {R : Type} (a : List Int) (b : List Int) (K0 : Bool → Option R) : Option R := bi (decide (short a)) (K0 (decide (a = b))) none

theorem findP_zip {a b : List Int} (hl : a.length = b.length) : findP (fun i => a.getD i 0 != b.getD i 0) (List.range a.length) = none ↔ a = b := by
  rw [findP_none]
  constructor
  · intro h
    refine List.ext_getElem hl fun i h1 h2 => ?_
    have := h i (by simpa using h1)
    rw [getD_of 0 h1, getD_of 0 h2] at this
    simpa using this
  · rintro rfl i _
    simp

theorem ok_tutorref01_Same {R : Type} (a : List Int) (b : List Int) (K0 : Bool → Option R) {r : R} (h : l_tutorref01_Same a b K0 = some r) : ∃ fuel, e_tutorref01_Same (run_tutorref01_Same K0 fuel) K0 a b = some r := by
  unfold l_tutorref01_Same at h
  rcases bi_some h with ⟨hs, h⟩ | ⟨_, h⟩
  · have hs : a.length < 4611686018427387904 := of_decide_eq_true hs
    refine ⟨a.length + 1, ?_⟩
    rw [← h]
    unfold e_tutorref01_Same
    by_cases hl : a.length = b.length
    · rw [br_ne' (by omega)]
      have key := scan_all (F := fun m i => run_tutorref01_Same K0 m a b (i : Int)) (fun i => a.getD i 0 != b.getD i 0) (l := List.range a.length) (A := fun i => K0 false) (B := K0 true)
        (fun m => by
          show s_tutorref01_Same_4 _ _ _ _ _ = _
          unfold s_tutorref01_Same_4
          rw [List.length_range, br_neg (by omega)])
        (fun m i hi => by
          rw [List.length_range] at hi
          show s_tutorref01_Same_4 _ _ _ _ _ = _
          unfold s_tutorref01_Same_4
          rw [br_pos (by omega), br_pos (by omega), br_pos (by omega), br_if, Int.toNat_natCast, wr _ (by omega) (by omega), List.getElem_range]
          rfl)
      rw [List.length_range] at key
      refine key.trans ?_
      by_cases e : a = b
      · rw [(findP_zip hl).2 e]
        simp [e]
      · have : findP (fun i => a.getD i 0 != b.getD i 0) (List.range a.length) ≠ none := fun h => e ((findP_zip hl).1 h)
        cases hf : findP (fun i => a.getD i 0 != b.getD i 0) (List.range a.length) with
        | none => exact absurd hf this
        | some j => simp [e]
    · rw [br_ne (by omega)]
      have e : a ≠ b := fun e => hl (by rw [e])
      simp [e]
  · cases h

theorem same_eq {R : Type} {a b : List Int} (h : short a) (K0 : Bool → Option R) : l_tutorref01_Same a b K0 = K0 (decide (a = b)) := by
  unfold l_tutorref01_Same
  rw [br_pos h]

abbrev LT_tutorref03_Same := {R : Type} → Int → Int → Int → Int → (List Int) → (List Int) → Int → Int → Int → Int → (List Int) → (List Int) → (Bool → Option R) → Option R
/-- tutor/tutorref03.Same -/
def l_tutorref03_Same {R : Type} (a a_1 a_2 a_3 : Int) (a_4 a_5 : List Int) (b b_1 b_2 b_3 : Int) (b_4 b_5 : List Int) (K0 : Bool → Option R) : Option R :=
  bi (a == b)
   (bi (a_1 == b_1)
    (bi (a_2 == b_2)
     (bi (a_3 == b_3)
      (l_tutorref01_Same a_4 b_4
       (fun r1 =>
        bi r1
         (l_tutorref01_Same a_5 b_5
          (fun r2 =>
           K0 r2))
         (K0 false)))
      (K0 false))
     (K0 false))
    (K0 false))
   (K0 false)

theorem sameM_eq {R : Type} {k K O N : Int} {nx ou : List Int} (h1 : short nx) (h2 : short ou) (K0 : Bool → Option R) :
    l_tutorref03_Same k K O N nx ou k K O N nx ou K0 = K0 true := by
  unfold l_tutorref03_Same
  rw [br_eq rfl, br_eq rfl, br_eq rfl, br_eq rfl, same_eq h1]
  try dsimp only
  rw [br_pos rfl, same_eq h2]
  simp

abbrev LT_tutorlaw08_live := {R : Type} → (Bool → Option R) → Option R
/-- tutor/tutorlaw08.live -/
def l_tutorlaw08_live {R : Type}  (K0 : Bool → Option R) : Option R :=
  l_text_Export 1 1 2 2 [1, 0] [0, 1]
   (fun r1 r2 =>
    l_text_Import r2
     (fun r3 r4 r5 r6 r7 r8 r9 r10 =>
      bi (decide (0 < [100, 102, 97, 32, 49, 32, 49, 10, 50, 32, 48, 10].length))
       (l_text_Import [100, 102, 97, 32, 49, 32, 49, 10, 50, 32, 48, 10]
        (fun r11 r12 r13 r14 r15 r16 r17 r18 =>
         bi (decide (0 < [48, 52, 50].length))
          (l_text_Number [48, 52, 50] 0
           (fun r19 r20 r21 =>
            l_tutorlaw08_num r1
             (fun r22 =>
              l_tutorlaw08_num r7
               (fun r23 =>
                bi ((IntKind.i64.wrap (r22 + r23)) == 0)
                 (bi ((ofBts r2).toList == (ByteArray.mk #[100, 102, 97, 32, 49, 32, 50, 10, 48, 32, 49, 10, 49, 32, 48, 10]).toList)
                  (l_tutorref03_Same r3 r4 r5 r6 r9 r10 1 1 2 2 [1, 0] [0, 1]
                   (fun r24 =>
                    bi r24
                     (bi (r8 == 16)
                      (l_tutorlaw08_num r15
                       (fun r25 =>
                        bi (r25 == 33)
                         (bi (r16 == 8)
                          (l_tutorlaw08_num r21
                           (fun r26 =>
                            bi (r26 == 6)
                             (K0 (r20 == 1))
                             (K0 false)))
                          (K0 false))
                         (K0 false)))
                      (K0 false))
                     (K0 false)))
                  (K0 false))
                 (K0 false)))))
          none))
       none))

theorem live08 {R : Type} (K0 : Bool → Option R) : l_tutorlaw08_live K0 = K0 true := by
  unfold l_tutorlaw08_live
  rw [exp_eq (by decide) (by decide), show exportS 1 1 2 2 [1, 0] [0, 1] = ([100, 102, 97, 32, 49, 32, 50, 10, 48, 32, 49, 10, 49, 32, 48, 10], 0) by kernel_rfl]
  try dsimp only
  rw [import_eq, show impS [100, 102, 97, 32, 49, 32, 50, 10, 48, 32, 49, 10, 49, 32, 48, 10] = ⟨1, 1, 2, 2, 0, 16, [1, 0], [0, 1]⟩ by kernel_rfl]
  try dsimp only
  rw [br_pos (by decide), import_eq, show impS [100, 102, 97, 32, 49, 32, 49, 10, 50, 32, 48, 10] = ⟨0, 0, 0, 0, 33, 8, [], []⟩ by kernel_rfl]
  try dsimp only
  rw [br_pos (by decide), number_eq (by unfold short; decide), show numS [48, 52, 50] 0 = (0, 1, 6) by kernel_rfl]
  dsimp only [l_tutorlaw08_num]
  rw [br_eq (by kernel_rfl), show ((ofBts [100, 102, 97, 32, 49, 32, 50, 10, 48, 32, 49, 10, 49, 32, 48, 10]).toList == (ByteArray.mk #[100, 102, 97, 32, 49, 32, 50, 10, 48, 32, 49, 10, 49, 32, 48, 10]).toList) = true by kernel_rfl, br_tt, sameM_eq (by unfold short; decide) (by unfold short; decide)]
  try dsimp only
  rw [br_tt, br_eq rfl, br_eq rfl, br_eq rfl, br_eq rfl]
  kernel_rfl

abbrev LT_tutorref03_Check := {R : Type} → Int → Int → Int → Int → (List Int) → (List Int) → (Int → Int → Option R) → Option R
abbrev GT_tutorref03_Check_15 (R : Type) := Int → Int → Int → Int → Int → (List Int) → (List Int) → Option R
abbrev GT_tutorref03_Check_20 (R : Type) := Int → Int → Int → Int → Int → (List Int) → (List Int) → Option R
/-- tutor/tutorref03.Check -/
def s_tutorref03_Check_15 {R : Type} (g36_15 : GT_tutorref03_Check_15 R) (g36_20 : GT_tutorref03_Check_20 R) (K0 : Int → Int → Option R) (i o0 o0_1 o0_2 o0_3 : Int) (o0_4 o0_5 : List Int) : Option R :=
  bi (decide (i < (o0_4.length : Int)))
   (bi (decide (0 ≤ i ∧ i < ((o0_4.length : Nat) : Int)))
    (bi (decide ((o0_4.getD i.toNat 0) < 0))
     (K0 i 32)
     (bi (decide (0 ≤ i ∧ i < ((o0_4.length : Nat) : Int)))
      (bi (decide ((o0_4.getD i.toNat 0) ≥ o0_3))
       (K0 i 32)
       (g36_15 (IntKind.i64.wrap (i + 1)) o0 o0_1 o0_2 o0_3 o0_4 o0_5))
      none))
    none)
   (g36_20 0 o0 o0_1 o0_2 o0_3 o0_4 o0_5)

/-- tutor/tutorref03.Check -/
def s_tutorref03_Check_20 {R : Type} (g36_15 : GT_tutorref03_Check_15 R) (g36_20 : GT_tutorref03_Check_20 R) (K0 : Int → Int → Option R) (i o0 o0_1 o0_2 o0_3 : Int) (o0_4 o0_5 : List Int) : Option R :=
  bi (decide (i < (o0_5.length : Int)))
   (bi (decide (0 ≤ i ∧ i < ((o0_5.length : Nat) : Int)))
    (bi (decide ((o0_5.getD i.toNat 0) < 0))
     (K0 i 33)
     (bi (decide (0 ≤ i ∧ i < ((o0_5.length : Nat) : Int)))
      (bi (decide ((o0_5.getD i.toNat 0) ≥ o0_2))
       (K0 i 33)
       (g36_20 (IntKind.i64.wrap (i + 1)) o0 o0_1 o0_2 o0_3 o0_4 o0_5))
      none))
    none)
   (K0 0 0)

/-- tutor/tutorref03.Check -/
def e_tutorref03_Check {R : Type} (g36_15 : GT_tutorref03_Check_15 R) (g36_20 : GT_tutorref03_Check_20 R) (K0 : Int → Int → Option R) (m m_1 m_2 m_3 : Int) (m_4 m_5 : List Int) : Option R :=
  bi (m != 1)
   (bi (m != 2)
    (K0 0 30)
    (bi (decide (m_1 < 1))
     (K0 0 1)
     (bi (decide (m_1 > 64))
      (K0 0 1)
      (bi (m == 1)
       (bi (m_2 != 2)
        (K0 0 33)
        (bi (decide (m_2 < 1))
         (K0 0 33)
         (bi (decide (m_2 > 64))
          (K0 0 33)
          (bi (decide (m_3 < 1))
           (K0 0 3)
           (bi (decide (m_3 > 1024))
            (K0 0 3)
            (bi (m == 2)
             (bi ((m_4.length : Int) != (IntKind.i64.wrap (m_3 * m_1)))
              (K0 0 31)
              (bi ((m_5.length : Int) != (IntKind.i64.wrap (m_3 * m_1)))
               (K0 0 31)
               (g36_15 0 m m_1 m_2 m_3 m_4 m_5)))
             (bi ((m_4.length : Int) != (IntKind.i64.wrap (m_3 * m_1)))
              (K0 0 31)
              (bi ((m_5.length : Int) != m_3)
               (K0 0 31)
               (g36_15 0 m m_1 m_2 m_3 m_4 m_5)))))))))
       (bi (decide (m_2 < 1))
        (K0 0 33)
        (bi (decide (m_2 > 64))
         (K0 0 33)
         (bi (decide (m_3 < 1))
          (K0 0 3)
          (bi (decide (m_3 > 1024))
           (K0 0 3)
           (bi (m == 2)
            (bi ((m_4.length : Int) != (IntKind.i64.wrap (m_3 * m_1)))
             (K0 0 31)
             (bi ((m_5.length : Int) != (IntKind.i64.wrap (m_3 * m_1)))
              (K0 0 31)
              (g36_15 0 m m_1 m_2 m_3 m_4 m_5)))
            (bi ((m_4.length : Int) != (IntKind.i64.wrap (m_3 * m_1)))
             (K0 0 31)
             (bi ((m_5.length : Int) != m_3)
              (K0 0 31)
              (g36_15 0 m m_1 m_2 m_3 m_4 m_5))))))))))))
   (bi (decide (m_1 < 1))
    (K0 0 1)
    (bi (decide (m_1 > 64))
     (K0 0 1)
     (bi (m == 1)
      (bi (m_2 != 2)
       (K0 0 33)
       (bi (decide (m_2 < 1))
        (K0 0 33)
        (bi (decide (m_2 > 64))
         (K0 0 33)
         (bi (decide (m_3 < 1))
          (K0 0 3)
          (bi (decide (m_3 > 1024))
           (K0 0 3)
           (bi (m == 2)
            (bi ((m_4.length : Int) != (IntKind.i64.wrap (m_3 * m_1)))
             (K0 0 31)
             (bi ((m_5.length : Int) != (IntKind.i64.wrap (m_3 * m_1)))
              (K0 0 31)
              (g36_15 0 m m_1 m_2 m_3 m_4 m_5)))
            (bi ((m_4.length : Int) != (IntKind.i64.wrap (m_3 * m_1)))
             (K0 0 31)
             (bi ((m_5.length : Int) != m_3)
              (K0 0 31)
              (g36_15 0 m m_1 m_2 m_3 m_4 m_5)))))))))
      (bi (decide (m_2 < 1))
       (K0 0 33)
       (bi (decide (m_2 > 64))
        (K0 0 33)
        (bi (decide (m_3 < 1))
         (K0 0 3)
         (bi (decide (m_3 > 1024))
          (K0 0 3)
          (bi (m == 2)
           (bi ((m_4.length : Int) != (IntKind.i64.wrap (m_3 * m_1)))
            (K0 0 31)
            (bi ((m_5.length : Int) != (IntKind.i64.wrap (m_3 * m_1)))
             (K0 0 31)
             (g36_15 0 m m_1 m_2 m_3 m_4 m_5)))
           (bi ((m_4.length : Int) != (IntKind.i64.wrap (m_3 * m_1)))
            (K0 0 31)
            (bi ((m_5.length : Int) != m_3)
             (K0 0 31)
             (g36_15 0 m m_1 m_2 m_3 m_4 m_5)))))))))))

def run_tutorref03_Check {R : Type} (K0 : Int → Int → Option R) : Nat → (Int → Int → Int → Int → Int → (List Int) → (List Int) → Option R) × (Int → Int → Int → Int → Int → (List Int) → (List Int) → Option R)
  | 0 => (fun _ _ _ _ _ _ _ => none, fun _ _ _ _ _ _ _ => none)
  | n + 1 => (s_tutorref03_Check_15 (run_tutorref03_Check K0 n).1 (run_tutorref03_Check K0 n).2 K0, s_tutorref03_Check_20 (run_tutorref03_Check K0 n).1 (run_tutorref03_Check K0 n).2 K0)

def l_tutorref03_Check {R : Type} (k K O N : Int) (nx ou : List Int) (K0 : Int → Int → Option R) : Option R :=
  bi (decide (short nx ∧ short ou)) (K0 (checkR k K O N nx ou).1 (checkR k K O N nx ou).2) none

theorem checkR_head {R : Type} (g1 g2 : Int → Int → Int → Int → Int → List Int → List Int → Option R) (K0 : Int → Int → Option R) (k K O N : Int) (nx ou : List Int) :
    e_tutorref03_Check g1 g2 K0 k K O N nx ou = if headS k K O N nx ou = 0 then g1 0 k K O N nx ou else K0 0 (headS k K O N nx ou) := by
  have L0 : headS k K O N nx ou = 0 → g1 0 k K O N nx ou = if headS k K O N nx ou = 0 then g1 0 k K O N nx ou else K0 0 (headS k K O N nx ou) := fun h => by rw [if_pos h]
  have LK : ∀ c, headS k K O N nx ou = c → c ≠ 0 → K0 0 c = if headS k K O N nx ou = 0 then g1 0 k K O N nx ou else K0 0 (headS k K O N nx ou) := fun c h h0 => by rw [h, if_neg h0]
  unfold e_tutorref03_Check
  simp only [br_if, bne_iff_ne, beq_iff_eq, decide_eq_true_eq, ne_eq]
  by_cases hb : (1 ≤ N ∧ N ≤ 1024) ∧ 1 ≤ K ∧ K ≤ 64
  · have := mulK hb
    rw [wr (N * K) (by omega) (by omega)]
    repeat' (refine ite_l (fun _ => ?_) (fun _ => ?_))
    all_goals first
      | exact LK _ (by unfold headS; repeat' (refine ite_l (fun _ => ?_) (fun _ => ?_)); all_goals omega) (by omega)
      | exact L0 (by unfold headS; repeat' (refine ite_l (fun _ => ?_) (fun _ => ?_)); all_goals omega)
  · repeat' (refine ite_l (fun _ => ?_) (fun _ => ?_))
    all_goals first
      | exact LK _ (by unfold headS; repeat' (refine ite_l (fun _ => ?_) (fun _ => ?_)); all_goals omega) (by omega)
      | exact L0 (by unfold headS; repeat' (refine ite_l (fun _ => ?_) (fun _ => ?_)); all_goals omega)

theorem ok_tutorref03_Check {R : Type} (k K O N : Int) (nx ou : List Int) (K0 : Int → Int → Option R) {r : R} (h : l_tutorref03_Check k K O N nx ou K0 = some r) :
    ∃ fuel, e_tutorref03_Check (run_tutorref03_Check K0 fuel).1 (run_tutorref03_Check K0 fuel).2 K0 k K O N nx ou = some r := by
  unfold l_tutorref03_Check at h
  rcases bi_some h with ⟨hs, h⟩ | ⟨_, h⟩
  · obtain ⟨h1, h2⟩ : nx.length < 4611686018427387904 ∧ ou.length < 4611686018427387904 := of_decide_eq_true hs
    refine ⟨ou.length + 1 + (nx.length + 1), ?_⟩
    rw [← h, checkR_head]
    unfold checkR
    by_cases hh : headS k K O N nx ou = 0
    · rw [if_pos hh, if_neg (by simpa using hh)]
      have key2 : ∀ n, (run_tutorref03_Check K0 (n + (ou.length + 1))).2 0 k K O N nx ou = match findP (outside O) ou with | some i => K0 (i : Int) 33 | none => K0 0 0 := fun n =>
        scan_all (F := fun m i => (run_tutorref03_Check K0 (n + m)).2 (i : Int) k K O N nx ou) (outside O) (l := ou) (A := fun i => K0 i 33) (B := K0 0 0)
          (fun m => by
            show s_tutorref03_Check_20 (run_tutorref03_Check K0 (n + m)).1 (run_tutorref03_Check K0 (n + m)).2 K0 _ _ _ _ _ _ _ = _
            unfold s_tutorref03_Check_20
            rw [br_neg (by omega)])
          (fun m i hi => by
            show s_tutorref03_Check_20 (run_tutorref03_Check K0 (n + m)).1 (run_tutorref03_Check K0 (n + m)).2 K0 _ _ _ _ _ _ _ = _
            unfold s_tutorref03_Check_20
            rw [br_pos (by omega), br_pos (by omega), br_pos (p := 0 ≤ (i : Int) ∧ (i : Int) < ((ou.length : Nat) : Int)) (by omega), Int.toNat_natCast, getD_of 0 hi, wr _ (by omega) (by omega)]
            unfold outside
            cases decide (ou[i] < 0) <;> cases decide (ou[i] ≥ O) <;> rfl)
      have key1 := scan_all (F := fun m i => (run_tutorref03_Check K0 (ou.length + 1 + m)).1 (i : Int) k K O N nx ou) (outside N) (l := nx) (A := fun i => K0 i 32)
        (B := match findP (outside O) ou with | some i => K0 (i : Int) 33 | none => K0 0 0)
          (fun m => by
            show s_tutorref03_Check_15 (run_tutorref03_Check K0 (ou.length + 1 + m)).1 (run_tutorref03_Check K0 (ou.length + 1 + m)).2 K0 _ _ _ _ _ _ _ = _
            unfold s_tutorref03_Check_15
            rw [br_neg (by omega)]
            have := key2 m
            rwa [show m + (ou.length + 1) = ou.length + 1 + m by omega] at this)
          (fun m i hi => by
            show s_tutorref03_Check_15 (run_tutorref03_Check K0 (ou.length + 1 + m)).1 (run_tutorref03_Check K0 (ou.length + 1 + m)).2 K0 _ _ _ _ _ _ _ = _
            unfold s_tutorref03_Check_15
            rw [br_pos (by omega), br_pos (by omega), br_pos (p := 0 ≤ (i : Int) ∧ (i : Int) < ((nx.length : Nat) : Int)) (by omega), Int.toNat_natCast, getD_of 0 hi, wr _ (by omega) (by omega)]
            unfold outside
            cases decide (nx[i] < 0) <;> cases decide (nx[i] ≥ N) <;> rfl)
      refine key1.trans ?_
      cases findP (outside N) nx with
      | some i => rfl
      | none => cases findP (outside O) ou <;> rfl
    · rw [if_neg hh, if_pos (by simpa using hh)]
  · cases h

abbrev LT_tutorref07_now := {R : Type} → Int → Int → Int → Int → (List Int) → (List Int) → Int → Int → Int → Int → (List Int) → (List Int) → Int → Int → Int → (Bool → Option R) → Option R
/-- tutor/tutorref07.now -/
def l_tutorref07_now {R : Type} (a a_1 a_2 a_3 : Int) (a_4 a_5 : List Int) (b b_1 b_2 b_3 : Int) (b_4 b_5 : List Int) (s t x : Int) (K0 : Bool → Option R) : Option R :=
  bi (a == 1)
   (bi (decide (x < 0))
    (bi (decide (0 ≤ s ∧ s < ((a_5.length : Nat) : Int)))
     (bi (decide (0 ≤ t ∧ t < ((b_5.length : Nat) : Int)))
      (K0 ((a_5.getD s.toNat 0) != (b_5.getD t.toNat 0)))
      none)
     none)
    (K0 false))
   (bi (decide (x ≥ 0))
    (bi (decide (0 ≤ (IntKind.i64.wrap ((IntKind.i64.wrap (s * a_1)) + x)) ∧ (IntKind.i64.wrap ((IntKind.i64.wrap (s * a_1)) + x)) < ((a_5.length : Nat) : Int)))
     (bi (decide (0 ≤ (IntKind.i64.wrap ((IntKind.i64.wrap (t * b_1)) + x)) ∧ (IntKind.i64.wrap ((IntKind.i64.wrap (t * b_1)) + x)) < ((b_5.length : Nat) : Int)))
      (K0 ((a_5.getD ((IntKind.i64.wrap ((IntKind.i64.wrap (s * a_1)) + x)).toNat) 0) != (b_5.getD ((IntKind.i64.wrap ((IntKind.i64.wrap (t * b_1)) + x)).toNat) 0)))
      none)
     none)
    (K0 false))

theorem now_st {R : Type} {D : Duo} {O O' : Int} (A : Fine D.k D.K O D.N D.nx D.ou) (B : Fine D.k D.K O' D.M D.nx' D.ou') {p : Int × Int} (hp : D.inn p) (K0 : Bool → Option R) :
    l_tutorref07_now D.k D.K O D.N D.nx D.ou D.k D.K O' D.M D.nx' D.ou' p.1 p.2 (-1) K0 = K0 (D.st p) := by
  unfold l_tutorref07_now Duo.st
  have h1 := hp.1
  have h2 := hp.2
  rcases A.fk with h | h
  · have := A.fou1 h
    have := B.fou1 h
    rw [br_eq h, br_pos (by omega), br_pos (by omega), br_pos (by omega), h]
    rfl
  · rw [br_eq' (by omega), br_neg (by omega), h]
    rfl
theorem now_sy {R : Type} {D : Duo} {O O' : Int} (A : Fine D.k D.K O D.N D.nx D.ou) (B : Fine D.k D.K O' D.M D.nx' D.ou') {p : Int × Int} (hp : D.inn p) {x : Int} (hx : 0 ≤ x ∧ x < D.K) (K0 : Bool → Option R) :
    l_tutorref07_now D.k D.K O D.N D.nx D.ou D.k D.K O' D.M D.nx' D.ou' p.1 p.2 x K0 = K0 (D.sy p x) := by
  unfold l_tutorref07_now Duo.sy
  have h1 := idx_in hp.1 hx
  have h2 := idx_in hp.2 hx
  have := mulK ⟨A.fN, A.fK⟩
  have := mulK ⟨B.fN, B.fK⟩
  rcases A.fk with h | h
  · rw [br_eq h, br_neg (by omega), h]
    rfl
  · have := A.fou2 h
    have := B.fou2 h
    rw [br_eq' (by omega), br_pos (by omega), wr (p.1 * D.K) (by omega) (by omega), wr (p.2 * D.K) (by omega) (by omega), wr (p.1 * D.K + x) (by omega) (by omega), wr (p.2 * D.K + x) (by omega) (by omega), br_pos (by omega), br_pos (by omega), h]
    rfl

abbrev LT_tutorref01_Join := {R : Type} → (List Int) → (List Int) → ((List Int) → Option R) → Option R
/-- tutor/tutorref01.Join -/
def l_tutorref01_Join {R : Type} (a b : List Int) (K0 : (List Int) → Option R) : Option R :=
  bi (decide ((([] : List Int).length + a.length) * 8 ≤ lim))
   (bi (decide (((([] : List Int) ++ a).length + b.length) * 8 ≤ lim))
    (K0 ((([] : List Int) ++ a) ++ b))
    none)
   none

theorem join_eq {R : Type} {a b : List Int} (h : a.length + b.length ≤ 1000000000) (K0 : List Int → Option R) : l_tutorref01_Join a b K0 = K0 (a ++ b) := by
  unfold l_tutorref01_Join
  rw [br_pos (by simp [lim]; omega), br_pos (by simp [lim]; omega)]
  rfl

abbrev LT_tutorref07_search := {R : Type} → Int → Int → Int → Int → (List Int) → (List Int) → Int → Int → Int → Int → (List Int) → (List Int) → Int → Int → (Bool → (List Int) → Option R) → Option R
abbrev GT_tutorref07_search_8 (R : Type) := Int → Int → Int → Int → Int → (List Int) → (List Int) → Int → Int → Int → Int → (List Int) → (List Int) → (List Bool) → (List (List Int)) → (List Int) → Option R
abbrev GT_tutorref07_search_12 (R : Type) := Int → Int → Int → Int → Int → Int → Int → Int → (List Int) → (List Int) → Int → Int → Int → Int → (List Int) → (List Int) → (List Bool) → (List (List Int)) → (List Int) → Option R
/-- tutor/tutorref07.search -/
def s_tutorref07_search_8 {R : Type} (g42_8 : GT_tutorref07_search_8 R) (g42_12 : GT_tutorref07_search_12 R) (K0 : Bool → (List Int) → Option R) (i o0 o0_1 o0_2 o0_3 : Int) (o0_4 o0_5 : List Int) (o1 o1_1 o1_2 o1_3 : Int) (o1_4 o1_5 : List Int) (o2 : List Bool) (o3 : List (List Int)) (o4 : List Int) : Option R :=
  bi (decide (i < (o3.length : Int)))
   (bi (decide (0 ≤ i ∧ i < ((o4.length : Nat) : Int)))
    (bi (decide (o1_3 = 0))
     none
     (bi (decide (0 ≤ i ∧ i < ((o4.length : Nat) : Int)))
      (bi (decide (o1_3 = 0))
       none
       (g42_12 i (IntKind.i64.wrap ((o4.getD i.toNat 0).tdiv o1_3)) ((o4.getD i.toNat 0).tmod o1_3) 0 o0 o0_1 o0_2 o0_3 o0_4 o0_5 o1 o1_1 o1_2 o1_3 o1_4 o1_5 o2 o3 o4))
      none))
    none)
   (K0 false ([] : List Int))

/-- tutor/tutorref07.search -/
def s_tutorref07_search_12 {R : Type} (g42_8 : GT_tutorref07_search_8 R) (g42_12 : GT_tutorref07_search_12 R) (K0 : Bool → (List Int) → Option R) (i s t x o0 o0_1 o0_2 o0_3 : Int) (o0_4 o0_5 : List Int) (o1 o1_1 o1_2 o1_3 : Int) (o1_4 o1_5 : List Int) (o2 : List Bool) (o3 : List (List Int)) (o4 : List Int) : Option R :=
  bi (decide (x < o0_1))
   (bi (decide (0 ≤ i ∧ i < ((o3.length : Nat) : Int)))
    (l_tutorref01_Join (o3.getD i.toNat []) [x]
     (fun r2 =>
      bi (decide (0 ≤ (IntKind.i64.wrap ((IntKind.i64.wrap (s * o0_1)) + x)) ∧ (IntKind.i64.wrap ((IntKind.i64.wrap (s * o0_1)) + x)) < ((o0_4.length : Nat) : Int)))
       (bi (decide (0 ≤ (IntKind.i64.wrap ((IntKind.i64.wrap (t * o1_1)) + x)) ∧ (IntKind.i64.wrap ((IntKind.i64.wrap (t * o1_1)) + x)) < ((o1_4.length : Nat) : Int)))
        (l_tutorref07_now o0 o0_1 o0_2 o0_3 o0_4 o0_5 o1 o1_1 o1_2 o1_3 o1_4 o1_5 s t x
         (fun r3 =>
          bi r3
           (K0 true r2)
           (l_tutorref07_now o0 o0_1 o0_2 o0_3 o0_4 o0_5 o1 o1_1 o1_2 o1_3 o1_4 o1_5 (o0_4.getD ((IntKind.i64.wrap ((IntKind.i64.wrap (s * o0_1)) + x)).toNat) 0) (o1_4.getD ((IntKind.i64.wrap ((IntKind.i64.wrap (t * o1_1)) + x)).toNat) 0) (-1)
            (fun r4 =>
             bi r4
              (K0 true r2)
              (bi (decide (0 ≤ (IntKind.i64.wrap ((IntKind.i64.wrap ((o0_4.getD ((IntKind.i64.wrap ((IntKind.i64.wrap (s * o0_1)) + x)).toNat) 0) * o1_3)) + (o1_4.getD ((IntKind.i64.wrap ((IntKind.i64.wrap (t * o1_1)) + x)).toNat) 0))) ∧ (IntKind.i64.wrap ((IntKind.i64.wrap ((o0_4.getD ((IntKind.i64.wrap ((IntKind.i64.wrap (s * o0_1)) + x)).toNat) 0) * o1_3)) + (o1_4.getD ((IntKind.i64.wrap ((IntKind.i64.wrap (t * o1_1)) + x)).toNat) 0))) < ((o2.length : Nat) : Int)))
               (bi (!(o2.getD ((IntKind.i64.wrap ((IntKind.i64.wrap ((o0_4.getD ((IntKind.i64.wrap ((IntKind.i64.wrap (s * o0_1)) + x)).toNat) 0) * o1_3)) + (o1_4.getD ((IntKind.i64.wrap ((IntKind.i64.wrap (t * o1_1)) + x)).toNat) 0))).toNat) false))
                (bi (decide (0 ≤ (IntKind.i64.wrap ((IntKind.i64.wrap ((o0_4.getD ((IntKind.i64.wrap ((IntKind.i64.wrap (s * o0_1)) + x)).toNat) 0) * o1_3)) + (o1_4.getD ((IntKind.i64.wrap ((IntKind.i64.wrap (t * o1_1)) + x)).toNat) 0))) ∧ (IntKind.i64.wrap ((IntKind.i64.wrap ((o0_4.getD ((IntKind.i64.wrap ((IntKind.i64.wrap (s * o0_1)) + x)).toNat) 0) * o1_3)) + (o1_4.getD ((IntKind.i64.wrap ((IntKind.i64.wrap (t * o1_1)) + x)).toNat) 0))) < ((o2.length : Nat) : Int)))
                 (bi (decide ((o3.length + [r2].length) * 24 ≤ lim))
                  (bi (decide ((o4.length + [IntKind.i64.wrap ((IntKind.i64.wrap ((o0_4.getD ((IntKind.i64.wrap ((IntKind.i64.wrap (s * o0_1)) + x)).toNat) 0) * o1_3)) + (o1_4.getD ((IntKind.i64.wrap ((IntKind.i64.wrap (t * o1_1)) + x)).toNat) 0))].length) * 8 ≤ lim))
                   (g42_12 i s t (IntKind.i64.wrap (x + 1)) o0 o0_1 o0_2 o0_3 o0_4 o0_5 o1 o1_1 o1_2 o1_3 o1_4 o1_5 (o2.set ((IntKind.i64.wrap ((IntKind.i64.wrap ((o0_4.getD ((IntKind.i64.wrap ((IntKind.i64.wrap (s * o0_1)) + x)).toNat) 0) * o1_3)) + (o1_4.getD ((IntKind.i64.wrap ((IntKind.i64.wrap (t * o1_1)) + x)).toNat) 0))).toNat) true) (o3 ++ [r2]) (o4 ++ [IntKind.i64.wrap ((IntKind.i64.wrap ((o0_4.getD ((IntKind.i64.wrap ((IntKind.i64.wrap (s * o0_1)) + x)).toNat) 0) * o1_3)) + (o1_4.getD ((IntKind.i64.wrap ((IntKind.i64.wrap (t * o1_1)) + x)).toNat) 0))]))
                   none)
                  none)
                 none)
                (g42_12 i s t (IntKind.i64.wrap (x + 1)) o0 o0_1 o0_2 o0_3 o0_4 o0_5 o1 o1_1 o1_2 o1_3 o1_4 o1_5 o2 o3 o4))
               none)))))
        none)
       none))
    none)
   (g42_8 (IntKind.i64.wrap (i + 1)) o0 o0_1 o0_2 o0_3 o0_4 o0_5 o1 o1_1 o1_2 o1_3 o1_4 o1_5 o2 o3 o4)

/-- tutor/tutorref07.search -/
def e_tutorref07_search {R : Type} (g42_8 : GT_tutorref07_search_8 R) (g42_12 : GT_tutorref07_search_12 R) (K0 : Bool → (List Int) → Option R) (a a_1 a_2 a_3 : Int) (a_4 a_5 : List Int) (b b_1 b_2 b_3 : Int) (b_4 b_5 : List Int) (s t : Int) : Option R :=
  l_tutorref07_now a a_1 a_2 a_3 a_4 a_5 b b_1 b_2 b_3 b_4 b_5 s t (-1)
   (fun r1 =>
    bi r1
     (K0 true ([] : List Int))
     (bi (decide (0 ≤ (IntKind.i64.wrap (a_3 * b_3)) ∧ (IntKind.i64.wrap (a_3 * b_3)) ≤ (IntKind.i64.wrap (a_3 * b_3)) ∧ (IntKind.i64.wrap (a_3 * b_3)) ≤ 1073741824))
      (bi (decide (0 ≤ (IntKind.i64.wrap ((IntKind.i64.wrap (s * b_3)) + t)) ∧ (IntKind.i64.wrap ((IntKind.i64.wrap (s * b_3)) + t)) < (((List.replicate (IntKind.i64.wrap (a_3 * b_3)).toNat (false : Bool)).length : Nat) : Int)))
       (g42_8 0 a a_1 a_2 a_3 a_4 a_5 b b_1 b_2 b_3 b_4 b_5 ((List.replicate (IntKind.i64.wrap (a_3 * b_3)).toNat (false : Bool)).set ((IntKind.i64.wrap ((IntKind.i64.wrap (s * b_3)) + t)).toNat) true) [([] : List Int)] [IntKind.i64.wrap ((IntKind.i64.wrap (s * b_3)) + t)])
       none)
      none))

def run_tutorref07_search {R : Type} (K0 : Bool → (List Int) → Option R) : Nat → (Int → Int → Int → Int → Int → (List Int) → (List Int) → Int → Int → Int → Int → (List Int) → (List Int) → (List Bool) → (List (List Int)) → (List Int) → Option R) × (Int → Int → Int → Int → Int → Int → Int → Int → (List Int) → (List Int) → Int → Int → Int → Int → (List Int) → (List Int) → (List Bool) → (List (List Int)) → (List Int) → Option R)
  | 0 => (fun _ _ _ _ _ _ _ _ _ _ _ _ _ _ _ _ => none, fun _ _ _ _ _ _ _ _ _ _ _ _ _ _ _ _ _ _ _ => none)
  | n + 1 => (s_tutorref07_search_8 (run_tutorref07_search K0 n).1 (run_tutorref07_search K0 n).2 K0, s_tutorref07_search_12 (run_tutorref07_search K0 n).1 (run_tutorref07_search K0 n).2 K0)

def l_tutorref07_search {R : Type} (a : Int) (a_1 : Int) (a_2 : Int) (a_3 : Int) (a_4 : List Int) (a_5 : List Int) (b : Int) (b_1 : Int) (b_2 : Int) (b_3 : Int) (b_4 : List Int) (b_5 : List Int) (s : Int) (t : Int) (K0 : Bool → (List Int) → Option R) : Option R :=
  bi (decide ((checkR a a_1 a_2 a_3 a_4 a_5).2 = 0 ∧ (checkR b b_1 b_2 b_3 b_4 b_5).2 = 0 ∧ a = b ∧ a_1 = b_1 ∧ (0 ≤ s ∧ s < a_3) ∧ (0 ≤ t ∧ t < b_3)))
    (K0 (searchS ⟨a, a_1, a_3, b_3, a_4, a_5, b_4, b_5⟩ (s, t)).1 (searchS ⟨a, a_1, a_3, b_3, a_4, a_5, b_4, b_5⟩ (s, t)).2) none

/-- The marks are the row's. -/
structure Marks (D : Duo) (kn : List Bool) (L : List PW) : Prop where
  len : kn.length = (D.N * D.M).toNat
  get : ∀ q, D.inn q → kn.getD (q.1 * D.M + q.2).toNat false = known L q

theorem getD_setB (l : List Bool) (i t : Nat) (x : Bool) : (l.set i x).getD t false = if i = t ∧ i < l.length then x else l.getD t false := by
  rw [List.getD_eq_getElem?_getD, List.getElem?_set, List.getD_eq_getElem?_getD]
  by_cases h : i = t
  · subst h
    by_cases h2 : i < l.length
    · simp [h2]
    · simp [h2]
  · simp [h]

theorem known_snoc (L : List PW) (p q : Int × Int) (w : List Int) : known (L ++ [(p, w)]) q = (known L q || decide (p = q)) := by
  unfold known
  rw [List.any_append]
  congr 1
  rw [Bool.eq_iff_iff]
  simp [Prod.ext_iff]

theorem Marks.push {D : Duo} {kn : List Bool} {L : List PW} (M : Marks D kn L) {p : Int × Int} (hp : D.inn p) (w : List Int) : Marks D (kn.set (p.1 * D.M + p.2).toNat true) (L ++ [(p, w)]) := by
  refine ⟨by rw [List.length_set]; exact M.len, ?_⟩
  intro q hq
  have i1 := pair_in hp
  have i2 := pair_in hq
  have hl := M.len
  rw [getD_setB, known_snoc, M.get q hq]
  by_cases c : p = q
  · subst c
    rw [if_pos ⟨rfl, by omega⟩, decide_eq_true rfl, Bool.or_true]
  · rw [if_neg, decide_eq_false c, Bool.or_false]
    rintro ⟨h, _⟩
    have := pair_inj hp.2 hq.2 (show p.1 * D.M + p.2 = q.1 * D.M + q.2 by omega)
    exact c (Prod.ext this.1 this.2)

theorem words_get (L : List PW) (i : Nat) : (L.map (·.2)).getD i [] = (L.getD i pw0).2 := by
  simp only [List.getD_eq_getElem?_getD, List.getElem?_map]
  cases L[i]? <;> rfl
theorem ats_get (D : Duo) {L : List PW} {i : Nat} (h : i < L.length) : (L.map fun e => e.1.1 * D.M + e.1.2).getD i 0 = (L.getD i pw0).1.1 * D.M + (L.getD i pw0).1.2 := by
  rw [getD_of 0 (by simpa using h), List.getElem_map, getD_of pw0 h]
theorem pair_div {M a b : Int} (ha : 0 ≤ a) (h1 : 0 ≤ b ∧ b < M) : (a * M + b).tdiv M = a ∧ (a * M + b).tmod M = b := by
  have h0 : 0 ≤ a * M := Int.mul_nonneg ha (by omega)
  rw [Int.tdiv_eq_ediv_of_nonneg (by omega), Int.tmod_eq_emod_of_nonneg (by omega)]
  constructor
  · rw [Int.add_comm, Int.add_mul_ediv_right _ _ (by omega), Int.ediv_eq_zero_of_lt h1.1 h1.2]; omega
  · rw [Int.add_comm, Int.add_mul_emod_self_right, Int.emod_eq_of_lt h1.1 h1.2]

theorem rsearch_run {R : Type} {D : Duo} {O O' : Int} (A : Fine D.k D.K O D.N D.nx D.ou) (B : Fine D.k D.K O' D.M D.nx' D.ou') (s : Int × Int) (K0 : Bool → List Int → Option R) :
    ∀ (n i x : Nat) (L : List PW) (kn : List Bool) (r : Bool × List Int), bfs D n i x L = some r → Inv D s L → Marks D kn L → i < L.length → x ≤ D.K.toNat →
    Reach (fun m => (run_tutorref07_search K0 m).2 i (L.getD i pw0).1.1 (L.getD i pw0).1.2 x D.k D.K O D.N D.nx D.ou D.k D.K O' D.M D.nx' D.ou' kn (L.map (·.2)) (L.map fun e => e.1.1 * D.M + e.1.2)) (K0 r.1 r.2)
  | 0, _, _, _, _, _, h, _, _, _, _ => by cases h
  | n + 1, i, x, L, kn, r, h, I, W, hi, hx => by
    have F : D.Fine := ⟨⟨O, A⟩, ⟨O', B⟩⟩
    have hK := A.fK
    have hNK := mulK ⟨A.fN, A.fK⟩
    have hMK := mulK ⟨B.fN, B.fK⟩
    have hNM := mul_most A.fN B.fN
    have hmost := I.most
    have hm : L.getD i pw0 ∈ L := getD_mem hi
    have hp := I.inn _ hm
    have hrow : (L.map (·.2)).length = L.length := List.length_map _
    have hat : (L.map fun e => e.1.1 * D.M + e.1.2).length = L.length := List.length_map _
    unfold bfs at h
    by_cases c : (x : Int) < D.K
    · rw [if_pos c] at h
      have hx' : 0 ≤ (x : Int) ∧ (x : Int) < D.K := ⟨by omega, c⟩
      have i1 := idx_in hp.1 hx'
      have i2 := idx_in hp.2 hx'
      have f1 := A.fnx
      have f2 := B.fnx
      have hq := nxt_inn F hp hx'
      have hlen := I.len i hi
      have key : ∀ m, (run_tutorref07_search K0 (m + 1)).2 i (L.getD i pw0).1.1 (L.getD i pw0).1.2 x D.k D.K O D.N D.nx D.ou D.k D.K O' D.M D.nx' D.ou' kn (L.map (·.2)) (L.map fun e => e.1.1 * D.M + e.1.2) =
          if D.sy (L.getD i pw0).1 x || D.st (D.nxt (L.getD i pw0).1 x) then K0 true ((L.getD i pw0).2 ++ [(x : Int)])
          else if known L (D.nxt (L.getD i pw0).1 x) then (run_tutorref07_search K0 m).2 i (L.getD i pw0).1.1 (L.getD i pw0).1.2 ((x + 1 : Nat) : Int) D.k D.K O D.N D.nx D.ou D.k D.K O' D.M D.nx' D.ou' kn (L.map (·.2)) (L.map fun e => e.1.1 * D.M + e.1.2)
          else (run_tutorref07_search K0 m).2 i (L.getD i pw0).1.1 (L.getD i pw0).1.2 ((x + 1 : Nat) : Int) D.k D.K O D.N D.nx D.ou D.k D.K O' D.M D.nx' D.ou'
            (kn.set ((D.nxt (L.getD i pw0).1 x).1 * D.M + (D.nxt (L.getD i pw0).1 x).2).toNat true) (L.map (·.2) ++ [(L.getD i pw0).2 ++ [(x : Int)]]) ((L.map fun e => e.1.1 * D.M + e.1.2) ++ [(D.nxt (L.getD i pw0).1 x).1 * D.M + (D.nxt (L.getD i pw0).1 x).2]) := by
        intro m
        rw [show (run_tutorref07_search K0 (m + 1)).2 = s_tutorref07_search_12 (run_tutorref07_search K0 m).1 (run_tutorref07_search K0 m).2 K0 from rfl]
        unfold s_tutorref07_search_12
        rw [br_pos c, hrow, br_pos (by omega), Int.toNat_natCast, words_get]
        generalize hP : L.getD i pw0 = P at *
        obtain ⟨⟨p1, p2⟩, w⟩ := P
        dsimp only at hp i1 i2 hq hlen ⊢
        rw [join_eq (by
          show w.length + 1 ≤ 1000000000
          omega)]
        rw [wr (p1 * D.K) (by omega) (by omega), wr (p2 * D.K) (by omega) (by omega), wr (p1 * D.K + x) (by omega) (by omega), wr (p2 * D.K + x) (by omega) (by omega), wr ((x : Int) + 1) (by omega) (by omega)]
        rw [br_pos (by omega), br_pos (by omega)]
        rw [show l_tutorref07_now D.k D.K O D.N D.nx D.ou D.k D.K O' D.M D.nx' D.ou' p1 p2 x _ = _ from now_sy A B (p := (p1, p2)) hp hx' _]
        try dsimp only
        cases hsy : D.sy (p1, p2) x with
        | true => rw [br_tt, Bool.true_or, if_pos rfl]
        | false =>
        rw [br_ff, Bool.false_or]
        rw [show D.nx.getD (p1 * D.K + x).toNat 0 = (D.nxt (p1, p2) x).1 from rfl, show D.nx'.getD (p2 * D.K + x).toNat 0 = (D.nxt (p1, p2) x).2 from rfl]
        generalize hq' : D.nxt (p1, p2) x = q at *
        rw [now_st A B hq]
        try dsimp only
        cases hst : D.st q with
        | true => rw [br_tt, if_pos rfl]
        | false =>
        rw [br_ff, if_neg (by decide)]
        have i3 := pair_in hq
        have i4 : 0 ≤ q.1 * D.M := Int.mul_nonneg hq.1.1 (by have := B.fN; omega)
        have i5 := hq.2.1
        have hl := W.len
        rw [wr (q.1 * D.M) (by omega) (by omega), wr (q.1 * D.M + q.2) (by omega) (by omega), br_pos (by omega), W.get q hq]
        cases hkn : known L q with
        | true =>
          rw [show (!true) = false from rfl, br_ff, if_pos rfl]
          rfl
        | false =>
          rw [show (!false) = true from rfl, br_tt, if_neg (by decide), br_pos (by omega), br_pos (by
            show (L.length + 1) * 24 ≤ 140737488355328
            omega), hat, br_pos (by
            show (L.length + 1) * 8 ≤ 140737488355328
            omega)]
          rfl
      cases h1 : D.sy (L.getD i pw0).1 x || D.st (D.nxt (L.getD i pw0).1 x) with
      | true =>
        rw [h1, if_pos rfl] at h
        cases h
        exact .now fun m => by rw [key, h1, if_pos rfl]
      | false =>
        rw [h1, if_neg (by decide)] at h
        rw [Bool.or_eq_false_iff] at h1
        cases h2 : known L (D.nxt (L.getD i pw0).1 x) with
        | true =>
          rw [h2, if_pos rfl] at h
          exact .step (fun m => by rw [key, h1.1, h1.2, h2, Bool.or_false, if_neg (by decide), if_pos rfl]) (rsearch_run A B s K0 n i (x + 1) L kn r h I W hi (by omega))
        | false =>
          rw [h2, if_neg (by decide)] at h
          refine .step (fun m => by rw [key, h1.1, h1.2, h2, Bool.or_false, if_neg (by decide), if_neg (by decide)]) ?_
          have ih := rsearch_run A B s K0 n i (x + 1) _ _ r h (I.push F hi hx' h1.2 h2) (W.push hq _) (by simp; omega) (by omega)
          rw [List.map_append, List.map_append, getD_snoc, if_pos hi] at ih
          exact ih
    · rw [if_neg c] at h
      have key : ∀ m, (run_tutorref07_search K0 (m + 1)).2 i (L.getD i pw0).1.1 (L.getD i pw0).1.2 x D.k D.K O D.N D.nx D.ou D.k D.K O' D.M D.nx' D.ou' kn (L.map (·.2)) (L.map fun e => e.1.1 * D.M + e.1.2) =
          (run_tutorref07_search K0 m).1 ((i + 1 : Nat) : Int) D.k D.K O D.N D.nx D.ou D.k D.K O' D.M D.nx' D.ou' kn (L.map (·.2)) (L.map fun e => e.1.1 * D.M + e.1.2) := by
        intro m
        rw [show (run_tutorref07_search K0 (m + 1)).2 = s_tutorref07_search_12 (run_tutorref07_search K0 m).1 (run_tutorref07_search K0 m).2 K0 from rfl]
        unfold s_tutorref07_search_12
        rw [br_neg c, wr _ (by omega) (by omega)]
        rfl
      refine .step key ?_
      by_cases h3 : i + 1 < L.length
      · rw [if_pos h3] at h
        have hp2 := I.inn _ (getD_mem (d := pw0) h3)
        have hb := B.fN
        refine .step (fun m => ?_) (rsearch_run A B s K0 n (i + 1) 0 L kn r h I W h3 (by omega))
        rw [show (run_tutorref07_search K0 (m + 1)).1 = s_tutorref07_search_8 (run_tutorref07_search K0 m).1 (run_tutorref07_search K0 m).2 K0 from rfl]
        unfold s_tutorref07_search_8
        have hd := pair_div hp2.1.1 hp2.2
        have hN := A.fN
        rw [hrow, hat, br_pos (by omega), br_pos (by omega), br_neg (by omega), br_pos (by omega), br_neg (by omega), Int.toNat_natCast, ats_get D h3, hd.1, hd.2, wr _ (by have := hp2.1; omega) (by have := hp2.1; omega)]
        rfl
      · rw [if_neg h3] at h
        cases h
        refine .now fun m => ?_
        rw [show (run_tutorref07_search K0 (m + 1)).1 = s_tutorref07_search_8 (run_tutorref07_search K0 m).1 (run_tutorref07_search K0 m).2 K0 from rfl]
        unfold s_tutorref07_search_8
        rw [hrow, br_neg (by omega)]

theorem ok_tutorref07_search {R : Type} (a : Int) (a_1 : Int) (a_2 : Int) (a_3 : Int) (a_4 : List Int) (a_5 : List Int) (b : Int) (b_1 : Int) (b_2 : Int) (b_3 : Int) (b_4 : List Int) (b_5 : List Int) (s : Int) (t : Int) (K0 : Bool → (List Int) → Option R) {r : R} (h : l_tutorref07_search a a_1 a_2 a_3 a_4 a_5 b b_1 b_2 b_3 b_4 b_5 s t K0 = some r) : ∃ fuel, e_tutorref07_search (run_tutorref07_search K0 fuel).1 (run_tutorref07_search K0 fuel).2 K0 a a_1 a_2 a_3 a_4 a_5 b b_1 b_2 b_3 b_4 b_5 s t = some r := by
  unfold l_tutorref07_search at h
  rcases bi_some h with ⟨hs, h'⟩ | ⟨_, h'⟩
  · obtain ⟨h1, h2, rfl, rfl, h3, h4⟩ := of_decide_eq_true hs
    have A := checkR_fine.1 h1
    have B := checkR_fine.1 h2
    rw [← h']
    have hin : (⟨a, a_1, a_3, b_3, a_4, a_5, b_4, b_5⟩ : Duo).inn (s, t) := ⟨h3, h4⟩
    have e0 := now_st (R := R) (D := ⟨a, a_1, a_3, b_3, a_4, a_5, b_4, b_5⟩) (O := a_2) (O' := b_2) A B hin
    dsimp only at e0
    unfold e_tutorref07_search
    have F : (⟨a, a_1, a_3, b_3, a_4, a_5, b_4, b_5⟩ : Duo).Fine := ⟨⟨_, A⟩, ⟨_, B⟩⟩
    cases hst : Duo.st ⟨a, a_1, a_3, b_3, a_4, a_5, b_4, b_5⟩ (s, t) with
    | true =>
      refine ⟨0, ?_⟩
      rw [e0]
      try dsimp only
      rw [hst, br_tt]
      unfold searchS
      rw [if_pos hst]
      try rfl
    | false =>
      have hNM := mul_most A.fN B.fN
      have i1 := pair_in hin
      have i2 : 0 ≤ s * b_3 := Int.mul_nonneg h3.1 (by omega)
      dsimp only at i1
      have M0 : Marks ⟨a, a_1, a_3, b_3, a_4, a_5, b_4, b_5⟩ ((List.replicate (a_3 * b_3).toNat false).set (s * b_3 + t).toNat true) [((s, t), [])] := by
        have Z : Marks ⟨a, a_1, a_3, b_3, a_4, a_5, b_4, b_5⟩ (List.replicate (a_3 * b_3).toNat false) [] := by
          refine ⟨by simp, fun q _ => ?_⟩
          rw [List.getD_eq_getElem?_getD, List.getElem?_replicate]
          show (if _ then _ else _ : Option Bool).getD false = false
          split <;> rfl
        exact Z.push hin []
      obtain ⟨n, hn⟩ := (rsearch_run (D := ⟨a, a_1, a_3, b_3, a_4, a_5, b_4, b_5⟩) (O := a_2) (O' := b_2) A B (s, t) K0 _ 0 0 _ _ _ (searchS_run F hin hst) (Inv.start hin hst) M0 (by simp) (by omega)).get
      refine ⟨n + 1, ?_⟩
      rw [e0]
      try dsimp only
      rw [hst, br_ff, wr (a_3 * b_3) (by omega) (by omega), wr (s * b_3) (by omega) (by omega), wr (s * b_3 + t) (by omega) (by omega), br_pos (by omega), List.length_replicate, br_pos (by omega)]
      rw [show (run_tutorref07_search K0 (n + 1)).1 = s_tutorref07_search_8 (run_tutorref07_search K0 n).1 (run_tutorref07_search K0 n).2 K0 from rfl]
      unfold s_tutorref07_search_8
      have hd := pair_div h3.1 h4
      rw [br_pos (by simp), br_pos (by simp), br_neg (by omega), br_pos (by simp), br_neg (by omega)]
      rw [show [s * b_3 + t].getD (0 : Int).toNat 0 = s * b_3 + t from rfl, hd.1, hd.2, wr s (by have := A.fN; omega) (by have := A.fN; omega)]
      exact hn
  · cases h'

theorem rsearch_eq {R : Type} {D : Duo} {O O' : Int} (A : Fine D.k D.K O D.N D.nx D.ou) (B : Fine D.k D.K O' D.M D.nx' D.ou') {s : Int × Int} (hs : D.inn s) (K0 : Bool → List Int → Option R) :
    l_tutorref07_search D.k D.K O D.N D.nx D.ou D.k D.K O' D.M D.nx' D.ou' s.1 s.2 K0 = K0 (searchS D s).1 (searchS D s).2 := by
  unfold l_tutorref07_search
  rw [br_pos ⟨checkR_fine.2 A, checkR_fine.2 B, rfl, rfl, hs⟩]

abbrev LT_tutorref07_Separate := {R : Type} → Int → Int → Int → Int → (List Int) → (List Int) → Int → Int → Int → Int → (List Int) → (List Int) → (Bool → Int → (List Int) → Option R) → Option R
/-- tutor/tutorref07.Separate -/
def l_tutorref07_Separate {R : Type} (a a_1 a_2 a_3 : Int) (a_4 a_5 : List Int) (b b_1 b_2 b_3 : Int) (b_4 b_5 : List Int) (K0 : Bool → Int → (List Int) → Option R) : Option R :=
  l_tutorref03_Check a a_1 a_2 a_3 a_4 a_5
   (fun r1 r2 =>
    bi (r2 != 0)
     (K0 false r2 ([] : List Int))
     (l_tutorref03_Check b b_1 b_2 b_3 b_4 b_5
      (fun r3 r4 =>
       bi (r4 != 0)
        (K0 false r4 ([] : List Int))
        (bi (a != b)
         (K0 false 30 ([] : List Int))
         (bi (a_1 != b_1)
          (K0 false 1 ([] : List Int))
          (bi (a_2 != b_2)
           (K0 false 33 ([] : List Int))
           (l_tutorref07_search a a_1 a_2 a_3 a_4 a_5 b b_1 b_2 b_3 b_4 b_5 0 0
            (fun r5 r6 =>
             K0 r5 0 r6))))))))

theorem rsep_eq {R : Type} {k K O N : Int} {nx ou : List Int} {k' K' O' N' : Int} {nx' ou' : List Int} (h1 : okL nx) (h2 : okL ou) (h3 : okL nx') (h4 : okL ou') (K0 : Bool → Int → List Int → Option R) :
    l_tutorref07_Separate k K O N nx ou k' K' O' N' nx' ou' K0 = K0 (sepS k K O N nx ou k' K' O' N' nx' ou').1 (sepS k K O N nx ou k' K' O' N' nx' ou').2.1 (sepS k K O N nx ou k' K' O' N' nx' ou').2.2 := by
  unfold l_tutorref07_Separate l_tutorref03_Check
  rw [br_pos ⟨h1.1, h2.1⟩]
  try dsimp only
  by_cases c1 : (checkR k K O N nx ou).2 = 0
  · rw [br_ne' c1, br_pos ⟨h3.1, h4.1⟩]
    try dsimp only
    by_cases c2 : (checkR k' K' O' N' nx' ou').2 = 0
    · rw [br_ne' c2]
      by_cases c3 : k = k'
      · rw [br_ne' c3]
        by_cases c4 : K = K'
        · rw [br_ne' c4]
          by_cases c5 : O = O'
          · rw [br_ne' c5]
            have A := checkR_fine.1 c1
            have B := checkR_fine.1 c2
            have hc := (fitS_zero h1 h2 h3 h4).2 ⟨A, B, c3, c4, c5⟩
            unfold sepS
            rw [if_neg (by simpa using hc)]
            subst c3 c4 c5
            have := A.fN
            have := B.fN
            exact rsearch_eq (D := ⟨k, K, N, N', nx, ou, nx', ou'⟩) (s := (0, 0)) A B ⟨by dsimp only; omega, by dsimp only; omega⟩ _
          · rw [br_ne c5]
            unfold sepS fitS
            rw [checkS_eq h1 h2, checkS_eq h3 h4]
            subst c3 c4
            simp [c1, c2, c5]
        · rw [br_ne c4]
          unfold sepS fitS
          rw [checkS_eq h1 h2, checkS_eq h3 h4]
          subst c3
          simp [c1, c2, c4]
      · rw [br_ne c3]
        unfold sepS fitS
        rw [checkS_eq h1 h2, checkS_eq h3 h4]
        simp [c1, c2, c3]
    · rw [br_ne c2]
      unfold sepS fitS
      rw [checkS_eq h1 h2, checkS_eq h3 h4]
      simp [c1, c2]
  · rw [br_ne c1]
    unfold sepS fitS
    rw [checkS_eq h1 h2]
    simp [c1]

abbrev LT_tutorref05_now := {R : Type} → Int → Int → Int → Int → (List Int) → (List Int) → Int → Int → (Bool → Option R) → Option R
abbrev GT_tutorref05_now_4 (R : Type) := Int → Int → Int → Int → Int → Int → Int → (List Int) → (List Int) → Option R
/-- tutor/tutorref05.now -/
def s_tutorref05_now_4 {R : Type} (g72_4 : GT_tutorref05_now_4 R) (K0 : Bool → Option R) (s t x o0 o0_1 o0_2 o0_3 : Int) (o0_4 o0_5 : List Int) : Option R :=
  bi (decide (x < o0_1))
   (bi (decide (0 ≤ (IntKind.i64.wrap ((IntKind.i64.wrap (s * o0_1)) + x)) ∧ (IntKind.i64.wrap ((IntKind.i64.wrap (s * o0_1)) + x)) < ((o0_5.length : Nat) : Int)))
    (bi (decide (0 ≤ (IntKind.i64.wrap ((IntKind.i64.wrap (t * o0_1)) + x)) ∧ (IntKind.i64.wrap ((IntKind.i64.wrap (t * o0_1)) + x)) < ((o0_5.length : Nat) : Int)))
     (bi ((o0_5.getD ((IntKind.i64.wrap ((IntKind.i64.wrap (s * o0_1)) + x)).toNat) 0) != (o0_5.getD ((IntKind.i64.wrap ((IntKind.i64.wrap (t * o0_1)) + x)).toNat) 0))
      (K0 false)
      (g72_4 s t (IntKind.i64.wrap (x + 1)) o0 o0_1 o0_2 o0_3 o0_4 o0_5))
     none)
    none)
   (K0 true)

/-- tutor/tutorref05.now -/
def e_tutorref05_now {R : Type} (g72_4 : GT_tutorref05_now_4 R) (K0 : Bool → Option R) (m m_1 m_2 m_3 : Int) (m_4 m_5 : List Int) (s t : Int) : Option R :=
  bi (m == 1)
   (bi (decide (0 ≤ s ∧ s < ((m_5.length : Nat) : Int)))
    (bi (decide (0 ≤ t ∧ t < ((m_5.length : Nat) : Int)))
     (K0 ((m_5.getD s.toNat 0) == (m_5.getD t.toNat 0)))
     none)
    none)
   (g72_4 s t 0 m m_1 m_2 m_3 m_4 m_5)

def run_tutorref05_now {R : Type} (K0 : Bool → Option R) : Nat → Int → Int → Int → Int → Int → Int → Int → (List Int) → (List Int) → Option R
  | 0 => fun _ _ _ _ _ _ _ _ _ => none
  | n + 1 => s_tutorref05_now_4 (run_tutorref05_now K0 n) K0

def l_tutorref05_now {R : Type} (m : Int) (m_1 : Int) (m_2 : Int) (m_3 : Int) (m_4 : List Int) (m_5 : List Int) (s : Int) (t : Int) (K0 : Bool → Option R) : Option R :=
  bi (decide ((checkR m m_1 m_2 m_3 m_4 m_5).2 = 0 ∧ (0 ≤ s ∧ s < m_3) ∧ (0 ≤ t ∧ t < m_3))) (K0 (now5 m m_1 m_5 s t)) none

theorem ok_tutorref05_now {R : Type} (m : Int) (m_1 : Int) (m_2 : Int) (m_3 : Int) (m_4 : List Int) (m_5 : List Int) (s : Int) (t : Int) (K0 : Bool → Option R) {r : R} (h : l_tutorref05_now m m_1 m_2 m_3 m_4 m_5 s t K0 = some r) : ∃ fuel, e_tutorref05_now (run_tutorref05_now K0 fuel) K0 m m_1 m_2 m_3 m_4 m_5 s t = some r := by
  unfold l_tutorref05_now at h
  rcases bi_some h with ⟨hs, h'⟩ | ⟨_, h'⟩
  · obtain ⟨hc, h1, h2⟩ := of_decide_eq_true hs
    have F := checkR_fine.1 hc
    have hK := F.fK
    have hNK := mulK ⟨F.fN, F.fK⟩
    rw [← h']
    unfold e_tutorref05_now now5
    by_cases hk : m = 1
    · have := F.fou1 hk
      exact ⟨0, by rw [br_eq hk, br_pos (by omega), br_pos (by omega), if_pos hk]⟩
    · have h3 := F.fou2 (F.fk.resolve_left hk)
      have hl : (List.range m_1.toNat).length = m_1.toNat := List.length_range
      refine ⟨m_1.toNat + 1, ?_⟩
      rw [br_eq' hk, if_neg hk]
      have key := scan_all (F := fun n i => run_tutorref05_now K0 n s t (i : Int) m m_1 m_2 m_3 m_4 m_5) (fun x : Nat => m_5.getD (s * m_1 + x).toNat 0 != m_5.getD (t * m_1 + x).toNat 0) (l := List.range m_1.toNat) (A := fun i => K0 false) (B := K0 true)
        (fun n => by
          show s_tutorref05_now_4 (run_tutorref05_now K0 n) _ _ _ _ _ _ _ _ _ _ = _
          unfold s_tutorref05_now_4
          rw [br_neg (by omega)])
        (fun n i hi => by
          have hi' : i < m_1.toNat := by omega
          have i1 := idx_in h1 (x := (i : Int)) (K := m_1) (by omega)
          have i2 := idx_in h2 (x := (i : Int)) (K := m_1) (by omega)
          show s_tutorref05_now_4 (run_tutorref05_now K0 n) _ _ _ _ _ _ _ _ _ _ = _
          unfold s_tutorref05_now_4
          rw [br_pos (by omega), wr (s * m_1) (by omega) (by omega), wr (t * m_1) (by omega) (by omega), wr (s * m_1 + i) (by omega) (by omega), wr (t * m_1 + i) (by omega) (by omega), br_pos (by omega), br_pos (by omega), wr ((i : Int) + 1) (by omega) (by omega), br_if, List.getElem_range]
          rfl)
      rw [hl] at key
      refine key.trans ?_
      cases findP (fun x : Nat => m_5.getD (s * m_1 + x).toNat 0 != m_5.getD (t * m_1 + x).toNat 0) (List.range m_1.toNat) <;> rfl
  · cases h'

theorem now5_eq {R : Type} {k K O N : Int} {nx ou : List Int} (F : Fine k K O N nx ou) {s t : Int} (hs : 0 ≤ s ∧ s < N) (ht : 0 ≤ t ∧ t < N) (K0 : Bool → Option R) : l_tutorref05_now k K O N nx ou s t K0 = K0 (now5 k K ou s t) := by
  unfold l_tutorref05_now
  rw [br_pos ⟨checkR_fine.2 F, hs, ht⟩]

abbrev LT_tutorref05_start := {R : Type} → Int → Int → Int → Int → (List Int) → (List Int) → ((List (List Bool)) → Option R) → Option R
abbrev GT_tutorref05_start_3 (R : Type) := Int → Int → Int → Int → Int → (List Int) → (List Int) → (List (List Bool)) → Option R
abbrev GT_tutorref05_start_7 (R : Type) := Int → Int → Int → Int → Int → Int → (List Int) → (List Int) → (List (List Bool)) → (List Bool) → Option R
/-- tutor/tutorref05.start -/
def s_tutorref05_start_3 {R : Type} (g59_3 : GT_tutorref05_start_3 R) (g59_7 : GT_tutorref05_start_7 R) (K0 : (List (List Bool)) → Option R) (s o0 o0_1 o0_2 o0_3 : Int) (o0_4 o0_5 : List Int) (o1 : List (List Bool)) : Option R :=
  bi (decide (s < o0_3))
   (bi (decide (0 ≤ o0_3 ∧ o0_3 ≤ o0_3 ∧ o0_3 ≤ 1073741824))
    (g59_7 s 0 o0 o0_1 o0_2 o0_3 o0_4 o0_5 o1 (List.replicate o0_3.toNat (false : Bool)))
    none)
   (K0 o1)

/-- tutor/tutorref05.start -/
def s_tutorref05_start_7 {R : Type} (g59_3 : GT_tutorref05_start_3 R) (g59_7 : GT_tutorref05_start_7 R) (K0 : (List (List Bool)) → Option R) (s t o0 o0_1 o0_2 o0_3 : Int) (o0_4 o0_5 : List Int) (o1 : List (List Bool)) (o2 : List Bool) : Option R :=
  bi (decide (t < o0_3))
   (bi (o0 == 1)
    (l_tutorref05_now o0 o0_1 o0_2 o0_3 o0_4 o0_5 s t
     (fun r1 =>
      bi (decide (0 ≤ t ∧ t < ((o2.length : Nat) : Int)))
       (g59_7 s (IntKind.i64.wrap (t + 1)) o0 o0_1 o0_2 o0_3 o0_4 o0_5 o1 (o2.set t.toNat (!r1)))
       none))
    (bi (decide (0 ≤ t ∧ t < ((o2.length : Nat) : Int)))
     (g59_7 s (IntKind.i64.wrap (t + 1)) o0 o0_1 o0_2 o0_3 o0_4 o0_5 o1 (o2.set t.toNat false))
     none))
   (bi (decide ((o1.length + [o2].length) * 24 ≤ lim))
    (g59_3 (IntKind.i64.wrap (s + 1)) o0 o0_1 o0_2 o0_3 o0_4 o0_5 (o1 ++ [o2]))
    none)

/-- tutor/tutorref05.start -/
def e_tutorref05_start {R : Type} (g59_3 : GT_tutorref05_start_3 R) (g59_7 : GT_tutorref05_start_7 R) (K0 : (List (List Bool)) → Option R) (m m_1 m_2 m_3 : Int) (m_4 m_5 : List Int) : Option R :=
  g59_3 0 m m_1 m_2 m_3 m_4 m_5 ([] : List (List Bool))

def run_tutorref05_start {R : Type} (K0 : (List (List Bool)) → Option R) : Nat → (Int → Int → Int → Int → Int → (List Int) → (List Int) → (List (List Bool)) → Option R) × (Int → Int → Int → Int → Int → Int → (List Int) → (List Int) → (List (List Bool)) → (List Bool) → Option R)
  | 0 => (fun _ _ _ _ _ _ _ _ => none, fun _ _ _ _ _ _ _ _ _ _ => none)
  | n + 1 => (s_tutorref05_start_3 (run_tutorref05_start K0 n).1 (run_tutorref05_start K0 n).2 K0, s_tutorref05_start_7 (run_tutorref05_start K0 n).1 (run_tutorref05_start K0 n).2 K0)

def l_tutorref05_start {R : Type} (m : Int) (m_1 : Int) (m_2 : Int) (m_3 : Int) (m_4 : List Int) (m_5 : List Int) (K0 : (List (List Bool)) → Option R) : Option R :=
  bi (decide ((checkR m m_1 m_2 m_3 m_4 m_5).2 = 0)) (K0 (mat m_3.toNat (apart0 m m_1 m_5))) none

theorem start_in {R : Type} {k K O N : Int} {nx ou : List Int} (F : Fine k K O N nx ou) (K0 : (List (List Bool)) → Option R) {v : Option R} {s : Nat} (hs : (s : Int) < N) {o1 : List (List Bool)} (ho : o1.length ≤ 1024)
    (h : Reach (fun m => (run_tutorref05_start K0 m).1 ((s + 1 : Nat) : Int) k K O N nx ou (o1 ++ [(List.range N.toNat).map (apart0 k K ou s)])) v) :
    ∀ (d t : Nat), t + d = N.toNat → Reach (fun m => (run_tutorref05_start K0 m).2 s t k K O N nx ou o1 (prow N.toNat (apart0 k K ou s) t false)) v := by
  have hN := F.fN
  intro d
  induction d with
  | zero =>
    intro t ht
    refine .step (fun m => ?_) h
    rw [show (run_tutorref05_start K0 (m + 1)).2 = s_tutorref05_start_7 (run_tutorref05_start K0 m).1 (run_tutorref05_start K0 m).2 K0 from rfl]
    unfold s_tutorref05_start_7
    have e : t = N.toNat := by omega
    subst e
    rw [br_neg (by omega), prow_end, br_pos (by
      show (o1.length + 1) * 24 ≤ 140737488355328
      omega), wr _ (by omega) (by omega)]
    rfl
  | succ d ih =>
    intro t ht
    refine .step (fun m => ?_) (ih (t + 1) (by omega))
    rw [show (run_tutorref05_start K0 (m + 1)).2 = s_tutorref05_start_7 (run_tutorref05_start K0 m).1 (run_tutorref05_start K0 m).2 K0 from rfl]
    unfold s_tutorref05_start_7
    rw [br_pos (by omega), prow_len, wr ((t : Int) + 1) (by omega) (by omega), ← prow_next, Int.toNat_natCast]
    simp only [prow_set]
    by_cases hk : k = 1
    · rw [br_eq hk, now5_eq F ⟨by omega, hs⟩ ⟨by omega, by omega⟩]
      try dsimp only
      rw [br_pos (by omega), show apart0 k K ou s t = !(now5 k K ou s t) by unfold apart0; rw [hk]; rfl]
      rfl
    · rw [br_eq' hk, br_pos (by omega), show apart0 k K ou s t = false by unfold apart0; rw [show (k == 1) = false by simpa using hk]; rfl]
      rfl

theorem start_out {R : Type} {k K O N : Int} {nx ou : List Int} (F : Fine k K O N nx ou) (K0 : (List (List Bool)) → Option R) : ∀ (d s : Nat), s + d = N.toNat →
    Reach (fun m => (run_tutorref05_start K0 m).1 s k K O N nx ou ((mat N.toNat (apart0 k K ou)).take s)) (K0 (mat N.toNat (apart0 k K ou))) := by
  have hN := F.fN
  intro d
  induction d with
  | zero =>
    intro s hs
    refine .now fun m => ?_
    rw [show (run_tutorref05_start K0 (m + 1)).1 = s_tutorref05_start_3 (run_tutorref05_start K0 m).1 (run_tutorref05_start K0 m).2 K0 from rfl]
    unfold s_tutorref05_start_3
    rw [br_neg (by omega), List.take_of_length_le (by rw [mat_len]; omega)]
  | succ d ih =>
    intro s hs
    have := ih (s + 1) (by omega)
    rw [mat_take (by omega)] at this
    refine .step (fun m => ?_) (start_in F K0 (s := s) (by omega) (by rw [List.length_take, mat_len]; omega) this N.toNat 0 (by omega))
    rw [show (run_tutorref05_start K0 (m + 1)).1 = s_tutorref05_start_3 (run_tutorref05_start K0 m).1 (run_tutorref05_start K0 m).2 K0 from rfl]
    unfold s_tutorref05_start_3
    rw [br_pos (by omega), br_pos (by omega), prow_zero N.toNat (apart0 k K ou s)]
    rfl

theorem ok_tutorref05_start {R : Type} (m : Int) (m_1 : Int) (m_2 : Int) (m_3 : Int) (m_4 : List Int) (m_5 : List Int) (K0 : (List (List Bool)) → Option R) {r : R} (h : l_tutorref05_start m m_1 m_2 m_3 m_4 m_5 K0 = some r) : ∃ fuel, e_tutorref05_start (run_tutorref05_start K0 fuel).1 (run_tutorref05_start K0 fuel).2 K0 m m_1 m_2 m_3 m_4 m_5 = some r := by
  unfold l_tutorref05_start at h
  rcases bi_some h with ⟨hs, h'⟩ | ⟨_, h'⟩
  · have F := checkR_fine.1 (of_decide_eq_true hs)
    rw [← h']
    obtain ⟨n, hn⟩ := (start_out F K0 m_3.toNat 0 (by omega)).get
    exact ⟨n, hn⟩
  · cases h'

abbrev LT_tutorref05_round := {R : Type} → Int → Int → Int → Int → (List Int) → (List Int) → (List (List Bool)) → Bool → (Bool → (List (List Bool)) → Option R) → Option R
abbrev GT_tutorref05_round_4 (R : Type) := (List (List Bool)) → Bool → Bool → Int → Int → Int → Int → Int → (List Int) → (List Int) → (List (List Bool)) → Option R
abbrev GT_tutorref05_round_8 (R : Type) := (List (List Bool)) → Bool → Bool → Int → Int → Int → Int → Int → Int → (List Int) → (List Int) → (List (List Bool)) → (List Bool) → Option R
abbrev GT_tutorref05_round_12 (R : Type) := (List (List Bool)) → Bool → Bool → Int → Int → Int → Int → Int → Int → Int → (List Int) → (List Int) → (List (List Bool)) → (List Bool) → Option R
/-- tutor/tutorref05.round -/
def s_tutorref05_round_4 {R : Type} (g60_4 : GT_tutorref05_round_4 R) (g60_8 : GT_tutorref05_round_8 R) (g60_12 : GT_tutorref05_round_12 R) (K0 : Bool → (List (List Bool)) → Option R) (apart : List (List Bool)) (first more : Bool) (s o0 o0_1 o0_2 o0_3 : Int) (o0_4 o0_5 : List Int) (o1 : List (List Bool)) : Option R :=
  bi (decide (s < o0_3))
   (bi (decide (0 ≤ o0_3 ∧ o0_3 ≤ o0_3 ∧ o0_3 ≤ 1073741824))
    (g60_8 apart first more s 0 o0 o0_1 o0_2 o0_3 o0_4 o0_5 o1 (List.replicate o0_3.toNat (false : Bool)))
    none)
   (K0 more o1)

/-- tutor/tutorref05.round -/
def s_tutorref05_round_8 {R : Type} (g60_4 : GT_tutorref05_round_4 R) (g60_8 : GT_tutorref05_round_8 R) (g60_12 : GT_tutorref05_round_12 R) (K0 : Bool → (List (List Bool)) → Option R) (apart : List (List Bool)) (first more : Bool) (s t o0 o0_1 o0_2 o0_3 : Int) (o0_4 o0_5 : List Int) (o1 : List (List Bool)) (o2 : List Bool) : Option R :=
  bi (decide (t < o0_3))
   (bi (decide (0 ≤ s ∧ s < ((apart.length : Nat) : Int)))
    (bi (decide (0 ≤ t ∧ t < (((apart.getD s.toNat []).length : Nat) : Int)))
     (bi ((apart.getD s.toNat []).getD t.toNat false)
      (bi (decide (0 ≤ t ∧ t < ((o2.length : Nat) : Int)))
       (g60_12 apart first more s t 0 o0 o0_1 o0_2 o0_3 o0_4 o0_5 o1 (o2.set t.toNat true))
       none)
      (bi first
       (l_tutorref05_now o0 o0_1 o0_2 o0_3 o0_4 o0_5 s t
        (fun r1 =>
         bi (decide (0 ≤ t ∧ t < ((o2.length : Nat) : Int)))
          (g60_12 apart first more s t 0 o0 o0_1 o0_2 o0_3 o0_4 o0_5 o1 (o2.set t.toNat (!r1)))
          none))
       (bi (decide (0 ≤ t ∧ t < ((o2.length : Nat) : Int)))
        (g60_12 apart first more s t 0 o0 o0_1 o0_2 o0_3 o0_4 o0_5 o1 (o2.set t.toNat false))
        none)))
     none)
    none)
   (bi (decide ((o1.length + [o2].length) * 24 ≤ lim))
    (g60_4 apart first more (IntKind.i64.wrap (s + 1)) o0 o0_1 o0_2 o0_3 o0_4 o0_5 (o1 ++ [o2]))
    none)

/-- tutor/tutorref05.round -/
def s_tutorref05_round_12 {R : Type} (g60_4 : GT_tutorref05_round_4 R) (g60_8 : GT_tutorref05_round_8 R) (g60_12 : GT_tutorref05_round_12 R) (K0 : Bool → (List (List Bool)) → Option R) (apart : List (List Bool)) (first more : Bool) (s t x o0 o0_1 o0_2 o0_3 : Int) (o0_4 o0_5 : List Int) (o1 : List (List Bool)) (o2 : List Bool) : Option R :=
  bi (decide (x < o0_1))
   (bi (decide (0 ≤ t ∧ t < ((o2.length : Nat) : Int)))
    (bi (!(o2.getD t.toNat false))
     (bi (decide (0 ≤ (IntKind.i64.wrap ((IntKind.i64.wrap (s * o0_1)) + x)) ∧ (IntKind.i64.wrap ((IntKind.i64.wrap (s * o0_1)) + x)) < ((o0_4.length : Nat) : Int)))
      (bi (decide (0 ≤ (o0_4.getD ((IntKind.i64.wrap ((IntKind.i64.wrap (s * o0_1)) + x)).toNat) 0) ∧ (o0_4.getD ((IntKind.i64.wrap ((IntKind.i64.wrap (s * o0_1)) + x)).toNat) 0) < ((apart.length : Nat) : Int)))
       (bi (decide (0 ≤ (IntKind.i64.wrap ((IntKind.i64.wrap (t * o0_1)) + x)) ∧ (IntKind.i64.wrap ((IntKind.i64.wrap (t * o0_1)) + x)) < ((o0_4.length : Nat) : Int)))
        (bi (decide (0 ≤ (o0_4.getD ((IntKind.i64.wrap ((IntKind.i64.wrap (t * o0_1)) + x)).toNat) 0) ∧ (o0_4.getD ((IntKind.i64.wrap ((IntKind.i64.wrap (t * o0_1)) + x)).toNat) 0) < (((apart.getD ((o0_4.getD ((IntKind.i64.wrap ((IntKind.i64.wrap (s * o0_1)) + x)).toNat) 0).toNat) []).length : Nat) : Int)))
         (bi (decide (0 ≤ t ∧ t < ((o2.length : Nat) : Int)))
          (g60_12 apart first more s t (IntKind.i64.wrap (x + 1)) o0 o0_1 o0_2 o0_3 o0_4 o0_5 o1 (o2.set t.toNat ((apart.getD ((o0_4.getD ((IntKind.i64.wrap ((IntKind.i64.wrap (s * o0_1)) + x)).toNat) 0).toNat) []).getD ((o0_4.getD ((IntKind.i64.wrap ((IntKind.i64.wrap (t * o0_1)) + x)).toNat) 0).toNat) false)))
          none)
         none)
        none)
       none)
      none)
     (bi more
      (g60_8 apart first true s (IntKind.i64.wrap (t + 1)) o0 o0_1 o0_2 o0_3 o0_4 o0_5 o1 o2)
      (bi (decide (0 ≤ t ∧ t < ((o2.length : Nat) : Int)))
       (bi (decide (0 ≤ s ∧ s < ((apart.length : Nat) : Int)))
        (bi (decide (0 ≤ t ∧ t < (((apart.getD s.toNat []).length : Nat) : Int)))
         (g60_8 apart first (!((o2.getD t.toNat false) == ((apart.getD s.toNat []).getD t.toNat false))) s (IntKind.i64.wrap (t + 1)) o0 o0_1 o0_2 o0_3 o0_4 o0_5 o1 o2)
         none)
        none)
       none)))
    none)
   (bi more
    (g60_8 apart first true s (IntKind.i64.wrap (t + 1)) o0 o0_1 o0_2 o0_3 o0_4 o0_5 o1 o2)
    (bi (decide (0 ≤ t ∧ t < ((o2.length : Nat) : Int)))
     (bi (decide (0 ≤ s ∧ s < ((apart.length : Nat) : Int)))
      (bi (decide (0 ≤ t ∧ t < (((apart.getD s.toNat []).length : Nat) : Int)))
       (g60_8 apart first (!((o2.getD t.toNat false) == ((apart.getD s.toNat []).getD t.toNat false))) s (IntKind.i64.wrap (t + 1)) o0 o0_1 o0_2 o0_3 o0_4 o0_5 o1 o2)
       none)
      none)
     none))

/-- tutor/tutorref05.round -/
def e_tutorref05_round {R : Type} (g60_4 : GT_tutorref05_round_4 R) (g60_8 : GT_tutorref05_round_8 R) (g60_12 : GT_tutorref05_round_12 R) (K0 : Bool → (List (List Bool)) → Option R) (m m_1 m_2 m_3 : Int) (m_4 m_5 : List Int) (apart : List (List Bool)) (first : Bool) : Option R :=
  g60_4 apart first false 0 m m_1 m_2 m_3 m_4 m_5 ([] : List (List Bool))

def run_tutorref05_round {R : Type} (K0 : Bool → (List (List Bool)) → Option R) : Nat → ((List (List Bool)) → Bool → Bool → Int → Int → Int → Int → Int → (List Int) → (List Int) → (List (List Bool)) → Option R) × ((List (List Bool)) → Bool → Bool → Int → Int → Int → Int → Int → Int → (List Int) → (List Int) → (List (List Bool)) → (List Bool) → Option R) × ((List (List Bool)) → Bool → Bool → Int → Int → Int → Int → Int → Int → Int → (List Int) → (List Int) → (List (List Bool)) → (List Bool) → Option R)
  | 0 => (fun _ _ _ _ _ _ _ _ _ _ _ => none, fun _ _ _ _ _ _ _ _ _ _ _ _ _ => none, fun _ _ _ _ _ _ _ _ _ _ _ _ _ _ => none)
  | n + 1 => (s_tutorref05_round_4 (run_tutorref05_round K0 n).1 (run_tutorref05_round K0 n).2.1 (run_tutorref05_round K0 n).2.2 K0, s_tutorref05_round_8 (run_tutorref05_round K0 n).1 (run_tutorref05_round K0 n).2.1 (run_tutorref05_round K0 n).2.2 K0, s_tutorref05_round_12 (run_tutorref05_round K0 n).1 (run_tutorref05_round K0 n).2.1 (run_tutorref05_round K0 n).2.2 K0)

def l_tutorref05_round {R : Type} (m : Int) (m_1 : Int) (m_2 : Int) (m_3 : Int) (m_4 : List Int) (m_5 : List Int) (apart : List (List Bool)) (first : Bool) (K0 : Bool → (List (List Bool)) → Option R) : Option R :=
  bi (decide ((checkR m m_1 m_2 m_3 m_4 m_5).2 = 0 ∧ apart = mat m_3.toNat (ofM apart) ∧ first = (m == 2))) (K0 (moreS m_3.toNat (ofM apart) (apart1 m m_1 m_4 m_5 (ofM apart)) m_3.toNat) (mat m_3.toNat (apart1 m m_1 m_4 m_5 (ofM apart)))) none

section
variable {R : Type} {k K O N : Int} {nx ou : List Int} {f : Nat → Nat → Bool}

theorem step_in (F : Fine k K O N nx ou) {s x : Nat} (hs : (s : Int) < N) (hx : (x : Int) < K) : (0 ≤ (s : Int) * K ∧ 0 ≤ (s : Int) * K + x ∧ (s : Int) * K + x < nx.length ∧ (s : Int) * K + x < N * K) ∧ 0 ≤ nx.getD ((s : Int) * K + x).toNat 0 ∧ nx.getD ((s : Int) * K + x).toNat 0 < N := by
  have h1 := idx_in (s := (s : Int)) (x := (x : Int)) (N := N) (K := K) ⟨by omega, hs⟩ ⟨by omega, hx⟩
  have h2 := F.fnx
  refine ⟨by omega, ?_⟩
  rw [getD_of 0 (by omega)]
  exact F.fnxs _ (List.getElem_mem _)

/-- The symbols, one by one; and what is done behind them. -/
theorem round_x (F : Fine k K O N nx ou) (K0 : Bool → (List (List Bool)) → Option R) {s t : Nat} (hs : (s : Int) < N) (ht : (t : Int) < N) {more first : Bool} {o1 : List (List Bool)} {v : Option R} {g : Nat → Bool} {b0 : Bool} (hg : g t = anyX K nx f s t K.toNat b0)
    (h : Reach (fun m => (run_tutorref05_round K0 m).2.1 (mat N.toNat f) first (more || (g t != f s t)) s ((t + 1 : Nat) : Int) k K O N nx ou o1 (prow N.toNat g (t + 1) false)) v) :
    ∀ (d x : Nat), x + d = K.toNat → Reach (fun m => (run_tutorref05_round K0 m).2.2 (mat N.toNat f) first more s t x k K O N nx ou o1 (prow N.toNat g t (anyX K nx f s t x b0))) v := by
  have hN := F.fN
  have hK := F.fK
  have hNK := mulK ⟨hN, hK⟩
  have hsn : s < N.toNat := by omega
  have htn : t < N.toNat := by omega
  -- behind the symbols
  have fin : ∀ (X : Option R) (m : Nat), X = (run_tutorref05_round K0 m).2.1 (mat N.toNat f) first (more || (g t != f s t)) s ((t + 1 : Nat) : Int) k K O N nx ou o1 (prow N.toNat g (t + 1) false) → X = (fun m => (run_tutorref05_round K0 m).2.1 (mat N.toNat f) first (more || (g t != f s t)) s ((t + 1 : Nat) : Int) k K O N nx ou o1 (prow N.toNat g (t + 1) false)) m := fun _ _ h => h
  have tail : ∀ (m : Nat) (b : Bool), b = g t → bi more ((run_tutorref05_round K0 m).2.1 (mat N.toNat f) first true s (IntKind.i64.wrap ((t : Int) + 1)) k K O N nx ou o1 (prow N.toNat g t b))
      (bi (decide (0 ≤ (t : Int) ∧ (t : Int) < (((prow N.toNat g t b).length : Nat) : Int)))
       (bi (decide (0 ≤ (s : Int) ∧ (s : Int) < (((mat N.toNat f).length : Nat) : Int)))
        (bi (decide (0 ≤ (t : Int) ∧ (t : Int) < ((((mat N.toNat f).getD (s : Int).toNat []).length : Nat) : Int)))
         ((run_tutorref05_round K0 m).2.1 (mat N.toNat f) first (!(((prow N.toNat g t b).getD (t : Int).toNat false) == (((mat N.toNat f).getD (s : Int).toNat []).getD (t : Int).toNat false))) s (IntKind.i64.wrap ((t : Int) + 1)) k K O N nx ou o1 (prow N.toNat g t b)) none) none) none) =
      (run_tutorref05_round K0 m).2.1 (mat N.toNat f) first (more || (g t != f s t)) s ((t + 1 : Nat) : Int) k K O N nx ou o1 (prow N.toNat g (t + 1) false) := by
    intro m b hb
    subst hb
    rw [wr ((t : Int) + 1) (by omega) (by omega), prow_len, mat_len, Int.toNat_natCast, Int.toNat_natCast, mat_rlen hsn, prow_get htn, mat_get hsn htn, prow_next]
    cases more with
    | true => rw [br_tt]; rfl
    | false =>
      rw [br_ff, br_pos (by omega), br_pos (by omega), br_pos (by omega)]
      rfl
  intro d
  induction d with
  | zero =>
    intro x hx
    have e : x = K.toNat := by omega
    subst e
    refine .step (fun m => ?_) h
    rw [show (run_tutorref05_round K0 (m + 1)).2.2 = s_tutorref05_round_12 (run_tutorref05_round K0 m).1 (run_tutorref05_round K0 m).2.1 (run_tutorref05_round K0 m).2.2 K0 from rfl]
    unfold s_tutorref05_round_12
    rw [br_neg (by omega)]
    exact tail m _ hg.symm
  | succ d ih =>
    intro x hx
    have hxK : (x : Int) < K := by omega
    cases hb : anyX K nx f s t x b0 with
    | true =>
      have hgt : g t = true := by
        rw [hg]
        exact anyX_up (n := x) (by omega) hb
      refine .step (fun m => ?_) h
      rw [show (run_tutorref05_round K0 (m + 1)).2.2 = s_tutorref05_round_12 (run_tutorref05_round K0 m).1 (run_tutorref05_round K0 m).2.1 (run_tutorref05_round K0 m).2.2 K0 from rfl]
      unfold s_tutorref05_round_12
      rw [br_pos hxK, br_pos (by rw [prow_len]; omega), show ((prow N.toNat g t true).getD (t : Int).toNat false) = true by rw [Int.toNat_natCast, prow_get htn], show (!true) = false from rfl, br_ff]
      have h3 := tail m true hgt.symm
      rw [show ((prow N.toNat g t true).getD (t : Int).toNat false) = true by rw [Int.toNat_natCast, prow_get htn]] at h3
      exact h3
    | false =>
      have ih' := ih (x + 1) (by omega)
      have e : anyX K nx f s t (x + 1) b0 = f (nx.getD ((s : Int) * K + x).toNat 0).toNat (nx.getD ((t : Int) * K + x).toNat 0).toNat := by
        simp only [anyX]
        rw [hb, Bool.false_or]
      obtain ⟨i1, n1, n2⟩ := step_in F hs hxK
      obtain ⟨i2, n3, n4⟩ := step_in F ht hxK
      refine .step (fun m => ?_) ih'
      rw [show (run_tutorref05_round K0 (m + 1)).2.2 = s_tutorref05_round_12 (run_tutorref05_round K0 m).1 (run_tutorref05_round K0 m).2.1 (run_tutorref05_round K0 m).2.2 K0 from rfl]
      unfold s_tutorref05_round_12
      have p1 : 0 ≤ (t : Int) ∧ (t : Int) < (((prow N.toNat g t false).length : Nat) : Int) := by rw [prow_len]; omega
      rw [br_pos hxK, br_pos p1, show ((prow N.toNat g t false).getD (t : Int).toNat false) = false by rw [Int.toNat_natCast, prow_get htn], show (!false) = true from rfl, br_tt,
        wr ((s : Int) * K) (by omega) (by omega), wr ((t : Int) * K) (by omega) (by omega), wr ((s : Int) * K + x) (by omega) (by omega), wr ((t : Int) * K + x) (by omega) (by omega), wr ((x : Int) + 1) (by omega) (by omega),
        br_pos (by omega), mat_len, br_pos (by omega), br_pos (by omega), mat_rlen (by omega), br_pos (by omega), br_pos p1, mat_get (by omega) (by omega), Int.toNat_natCast, prow_set, e]
      rfl

theorem round_t (F : Fine k K O N nx ou) (K0 : Bool → (List (List Bool)) → Option R) {s : Nat} (hs : (s : Int) < N) {more0 : Bool} {o1 : List (List Bool)} (ho : o1.length ≤ 1024) {v : Option R}
    (h : Reach (fun m => (run_tutorref05_round K0 m).1 (mat N.toNat f) (k == 2) (more0 || moreR N.toNat f (apart1 k K nx ou f) s N.toNat) ((s + 1 : Nat) : Int) k K O N nx ou (o1 ++ [(List.range N.toNat).map (apart1 k K nx ou f s)])) v) :
    ∀ (d t : Nat), t + d = N.toNat → Reach (fun m => (run_tutorref05_round K0 m).2.1 (mat N.toNat f) (k == 2) (more0 || moreR N.toNat f (apart1 k K nx ou f) s t) s t k K O N nx ou o1 (prow N.toNat (apart1 k K nx ou f s) t false)) v := by
  have hN := F.fN
  have hsn : s < N.toNat := by omega
  intro d
  induction d with
  | zero =>
    intro t ht
    have e : t = N.toNat := by omega
    subst e
    refine .step (fun m => ?_) h
    rw [show (run_tutorref05_round K0 (m + 1)).2.1 = s_tutorref05_round_8 (run_tutorref05_round K0 m).1 (run_tutorref05_round K0 m).2.1 (run_tutorref05_round K0 m).2.2 K0 from rfl]
    unfold s_tutorref05_round_8
    rw [br_neg (by omega), prow_end, br_pos (by
      show (o1.length + 1) * 24 ≤ 140737488355328
      omega), wr _ (by omega) (by omega)]
    rfl
  | succ d ih =>
    intro t ht
    have htn : t < N.toNat := by omega
    have ih' := ih (t + 1) (by omega)
    rw [show (more0 || moreR N.toNat f (apart1 k K nx ou f) s (t + 1)) = ((more0 || moreR N.toNat f (apart1 k K nx ou f) s t) || (apart1 k K nx ou f s t != f s t)) by simp only [moreR]; rw [Bool.or_assoc]] at ih'
    refine .step (fun m => ?_) (round_x (g := apart1 k K nx ou f s) (b0 := apartN k K ou f s t) F K0 hs (t := t) (by omega) rfl ih' K.toNat 0 (by omega))
    rw [show (run_tutorref05_round K0 (m + 1)).2.1 = s_tutorref05_round_8 (run_tutorref05_round K0 m).1 (run_tutorref05_round K0 m).2.1 (run_tutorref05_round K0 m).2.2 K0 from rfl]
    unfold s_tutorref05_round_8
    rw [br_pos (by omega), mat_len, br_pos (by omega), Int.toNat_natCast, mat_rlen hsn, br_pos (by omega), Int.toNat_natCast, mat_get hsn htn, prow_len]
    simp only [prow_set]
    show _ = (run_tutorref05_round K0 m).2.2 _ _ _ _ _ _ _ _ _ _ _ _ _ (prow N.toNat _ t (apartN k K ou f s t))
    unfold apartN
    cases f s t with
    | true =>
      rw [br_tt, br_pos (by omega)]
      rfl
    | false =>
      cases hk : k == 2 with
      | true =>
        rw [br_ff, br_tt, now5_eq F ⟨by omega, hs⟩ ⟨by omega, by omega⟩]
        try dsimp only
        rw [br_pos (by omega)]
        rfl
      | false =>
        rw [br_ff, br_ff, br_pos (by omega)]
        rfl

theorem round_s (F : Fine k K O N nx ou) (K0 : Bool → (List (List Bool)) → Option R) : ∀ (d s : Nat), s + d = N.toNat →
    Reach (fun m => (run_tutorref05_round K0 m).1 (mat N.toNat f) (k == 2) (moreS N.toNat f (apart1 k K nx ou f) s) s k K O N nx ou ((mat N.toNat (apart1 k K nx ou f)).take s)) (K0 (moreS N.toNat f (apart1 k K nx ou f) N.toNat) (mat N.toNat (apart1 k K nx ou f))) := by
  have hN := F.fN
  intro d
  induction d with
  | zero =>
    intro s hs
    have e : s = N.toNat := by omega
    subst e
    refine .now fun m => ?_
    rw [show (run_tutorref05_round K0 (m + 1)).1 = s_tutorref05_round_4 (run_tutorref05_round K0 m).1 (run_tutorref05_round K0 m).2.1 (run_tutorref05_round K0 m).2.2 K0 from rfl]
    unfold s_tutorref05_round_4
    rw [br_neg (by omega), List.take_of_length_le (by rw [mat_len]; omega)]
  | succ d ih =>
    intro s hs
    have ih' := ih (s + 1) (by omega)
    rw [mat_take (by omega)] at ih'
    have := round_t F K0 (s := s) (by omega) (more0 := moreS N.toNat f (apart1 k K nx ou f) s) (by rw [List.length_take, mat_len]; omega) ih' N.toNat 0 (by omega)
    refine .step (fun m => ?_) this
    rw [show (run_tutorref05_round K0 (m + 1)).1 = s_tutorref05_round_4 (run_tutorref05_round K0 m).1 (run_tutorref05_round K0 m).2.1 (run_tutorref05_round K0 m).2.2 K0 from rfl]
    unfold s_tutorref05_round_4
    rw [br_pos (by omega), br_pos (by omega), prow_zero N.toNat (apart1 k K nx ou f s)]
    simp only [moreR, Bool.or_false]
    rfl
end

theorem ok_tutorref05_round {R : Type} (m : Int) (m_1 : Int) (m_2 : Int) (m_3 : Int) (m_4 : List Int) (m_5 : List Int) (apart : List (List Bool)) (first : Bool) (K0 : Bool → (List (List Bool)) → Option R) {r : R} (h : l_tutorref05_round m m_1 m_2 m_3 m_4 m_5 apart first K0 = some r) :
    ∃ fuel, e_tutorref05_round (run_tutorref05_round K0 fuel).1 (run_tutorref05_round K0 fuel).2.1 (run_tutorref05_round K0 fuel).2.2 K0 m m_1 m_2 m_3 m_4 m_5 apart first = some r := by
  unfold l_tutorref05_round at h
  rcases bi_some h with ⟨hs, h'⟩ | ⟨_, h'⟩
  · obtain ⟨hc, h1, h2⟩ := of_decide_eq_true hs
    have F := checkR_fine.1 hc
    rw [← h']
    obtain ⟨n, hn⟩ := (round_s (f := ofM apart) F K0 m_3.toNat 0 (by omega)).get
    refine ⟨n, ?_⟩
    rw [← h1, ← h2] at hn
    exact hn
  · cases h'

theorem round_eq {R : Type} {k K O N : Int} {nx ou : List Int} (F : Fine k K O N nx ou) (f : Nat → Nat → Bool) (K0 : Bool → (List (List Bool)) → Option R) :
    l_tutorref05_round k K O N nx ou (mat N.toNat f) (k == 2) K0 = K0 (moreS N.toNat (ofM (mat N.toNat f)) (apart1 k K nx ou (ofM (mat N.toNat f))) N.toNat) (mat N.toNat (apart1 k K nx ou (ofM (mat N.toNat f)))) := by
  unfold l_tutorref05_round
  rw [br_pos ⟨checkR_fine.2 F, mat_congr fun s t hs ht => (mat_get hs ht).symm, rfl⟩]

abbrev LT_tutorref05_classes := {R : Type} → (List (List Bool)) → ((List Int) → Option R) → Option R
abbrev GT_tutorref05_classes_4 (R : Type) := (List (List Bool)) → Int → Int → (List Int) → Option R
abbrev GT_tutorref05_classes_8 (R : Type) := (List (List Bool)) → Int → Int → Int → Int → (List Int) → Option R
/-- tutor/tutorref05.classes -/
def s_tutorref05_classes_4 {R : Type} (g61_4 : GT_tutorref05_classes_4 R) (g61_8 : GT_tutorref05_classes_8 R) (K0 : (List Int) → Option R) (apart : List (List Bool)) (n s : Int) (o0 : List Int) : Option R :=
  bi (decide (s < (apart.length : Int)))
   (g61_8 apart n s (-1) 0 o0)
   (K0 o0)

/-- tutor/tutorref05.classes -/
def s_tutorref05_classes_8 {R : Type} (g61_4 : GT_tutorref05_classes_4 R) (g61_8 : GT_tutorref05_classes_8 R) (K0 : (List Int) → Option R) (apart : List (List Bool)) (n s c t : Int) (o0 : List Int) : Option R :=
  bi (decide (t < s))
   (bi (decide (c < 0))
    (bi (decide (0 ≤ s ∧ s < ((apart.length : Nat) : Int)))
     (bi (decide (0 ≤ t ∧ t < (((apart.getD s.toNat []).length : Nat) : Int)))
      (bi (!((apart.getD s.toNat []).getD t.toNat false))
       (bi (decide (0 ≤ t ∧ t < ((o0.length : Nat) : Int)))
        (g61_8 apart n s (o0.getD t.toNat 0) (IntKind.i64.wrap (t + 1)) o0)
        none)
       (g61_8 apart n s c (IntKind.i64.wrap (t + 1)) o0))
      none)
     none)
    (bi (decide (c < 0))
     (bi (decide ((o0.length + [n].length) * 8 ≤ lim))
      (g61_4 apart (IntKind.i64.wrap (n + 1)) (IntKind.i64.wrap (s + 1)) (o0 ++ [n]))
      none)
     (bi (decide ((o0.length + [c].length) * 8 ≤ lim))
      (g61_4 apart n (IntKind.i64.wrap (s + 1)) (o0 ++ [c]))
      none)))
   (bi (decide (c < 0))
    (bi (decide ((o0.length + [n].length) * 8 ≤ lim))
     (g61_4 apart (IntKind.i64.wrap (n + 1)) (IntKind.i64.wrap (s + 1)) (o0 ++ [n]))
     none)
    (bi (decide ((o0.length + [c].length) * 8 ≤ lim))
     (g61_4 apart n (IntKind.i64.wrap (s + 1)) (o0 ++ [c]))
     none))

/-- tutor/tutorref05.classes -/
def e_tutorref05_classes {R : Type} (g61_4 : GT_tutorref05_classes_4 R) (g61_8 : GT_tutorref05_classes_8 R) (K0 : (List Int) → Option R) (apart : List (List Bool)) : Option R :=
  g61_4 apart 0 0 ([] : List Int)

def run_tutorref05_classes {R : Type} (K0 : (List Int) → Option R) : Nat → ((List (List Bool)) → Int → Int → (List Int) → Option R) × ((List (List Bool)) → Int → Int → Int → Int → (List Int) → Option R)
  | 0 => (fun _ _ _ _ => none, fun _ _ _ _ _ _ => none)
  | n + 1 => (s_tutorref05_classes_4 (run_tutorref05_classes K0 n).1 (run_tutorref05_classes K0 n).2 K0, s_tutorref05_classes_8 (run_tutorref05_classes K0 n).1 (run_tutorref05_classes K0 n).2 K0)

def l_tutorref05_classes {R : Type} (apart : List (List Bool)) (K0 : (List Int) → Option R) : Option R :=
  bi (decide (apart.length ≤ 1024 ∧ apart = mat apart.length (ofM apart))) (K0 (clsF (ofM apart) apart.length).1) none

section
variable {R : Type} {n : Nat} {f : Nat → Nat → Bool}

theorem cls_in (hn : n ≤ 1024) (K0 : (List Int) → Option R) {s : Nat} (hs : s < n) {v : Option R}
    (h : Reach (fun m => (run_tutorref05_classes K0 m).1 (mat n f) (clsF f (s + 1)).2 ((s + 1 : Nat) : Int) (clsF f (s + 1)).1) v) :
    ∀ (d t : Nat), t + d = s → (∀ i, i < t → f s i = true) → Reach (fun m => (run_tutorref05_classes K0 m).2 (mat n f) (clsF f s).2 s (-1) t (clsF f s).1) v := by
  have hin := clsF_in f s
  have hl := clsF_len f s
  intro d
  induction d with
  | zero =>
    intro t ht hf
    have e : t = s := by omega
    subst e
    have hc : findP (fun i => !f t i) (List.range t) = none := findP_none.2 fun i hi => by rw [hf i (List.mem_range.1 hi)]; rfl
    refine .step (fun m => ?_) h
    rw [show (run_tutorref05_classes K0 (m + 1)).2 = s_tutorref05_classes_8 (run_tutorref05_classes K0 m).1 (run_tutorref05_classes K0 m).2 K0 from rfl]
    unfold s_tutorref05_classes_8
    rw [br_neg (by omega), br_pos (by omega), br_pos (by
      show ((clsF f t).1.length + 1) * 8 ≤ 140737488355328
      omega), wr _ (by omega) (by omega), wr _ (by omega) (by omega)]
    simp only [clsF, hc]
    rfl
  | succ d ih =>
    intro t ht hf
    have hts : t < s := by omega
    cases hb : f s t with
    | true =>
      refine .step (fun m => ?_) (ih (t + 1) (by omega) fun i hi => by
        by_cases c : i = t
        · subst c; exact hb
        · exact hf i (by omega))
      rw [show (run_tutorref05_classes K0 (m + 1)).2 = s_tutorref05_classes_8 (run_tutorref05_classes K0 m).1 (run_tutorref05_classes K0 m).2 K0 from rfl]
      unfold s_tutorref05_classes_8
      rw [br_pos (by omega), br_pos (by omega), mat_len, br_pos (by omega), Int.toNat_natCast, mat_rlen hs, br_pos (by omega), Int.toNat_natCast, mat_get hs (by omega), hb, show (!true) = false from rfl, br_ff, wr _ (by omega) (by omega)]
      rfl
    | false =>
      have hc : findP (fun i => !f s i) (List.range s) = some t := by
        have key : ∀ (l : List Nat) (i : Nat), i < l.length → (∀ j, j < i → f s (l.getD j 0) = true) → f s (l.getD i 0) = false → findP (fun i => !f s i) l = some i := by
          intro l
          induction l with
          | nil => intro i hi; exact absurd hi (by simp)
          | cons a l ihl =>
            intro i hi hj hfi
            cases i with
            | zero =>
              have : f s a = false := hfi
              simp [findP, this]
            | succ i =>
              have h0 : f s a = true := hj 0 (by omega)
              have h1 := ihl i (by simpa using hi) (fun j hj' => hj (j + 1) (by omega)) hfi
              simp [findP, h0, h1]
        refine key _ t (by simpa using hts) (fun j hj => ?_) ?_
        · rw [getD_of 0 (by simp; omega), List.getElem_range]; exact hf j hj
        · rw [getD_of 0 (by simpa using hts), List.getElem_range]; exact hb
      have hg : 0 ≤ (clsF f s).1.getD t 0 := (hin.2 _ (getD_mem (by rw [hl]; exact hts))).1
      have hstep : ∀ m, (run_tutorref05_classes K0 (m + 1)).2 (mat n f) (clsF f s).2 s (-1) t (clsF f s).1 = (run_tutorref05_classes K0 m).2 (mat n f) (clsF f s).2 s ((clsF f s).1.getD t 0) ((t + 1 : Nat) : Int) (clsF f s).1 := by
        intro m
        rw [show (run_tutorref05_classes K0 (m + 1)).2 = s_tutorref05_classes_8 (run_tutorref05_classes K0 m).1 (run_tutorref05_classes K0 m).2 K0 from rfl]
        unfold s_tutorref05_classes_8
        rw [br_pos (by omega), br_pos (by omega), mat_len, br_pos (by omega), Int.toNat_natCast, mat_rlen hs, br_pos (by omega), Int.toNat_natCast, mat_get hs (by omega), hb, show (!false) = true from rfl, br_tt, br_pos (by omega), wr _ (by omega) (by omega)]
        rfl
      refine .step hstep (.step (fun m => ?_) h)
      rw [show (run_tutorref05_classes K0 (m + 1)).2 = s_tutorref05_classes_8 (run_tutorref05_classes K0 m).1 (run_tutorref05_classes K0 m).2 K0 from rfl]
      unfold s_tutorref05_classes_8
      have fin : ∀ X : Option R, bi (decide ((clsF f s).1.getD t 0 < 0)) X (bi (decide (((clsF f s).1.length + [(clsF f s).1.getD t 0].length) * 8 ≤ lim)) ((run_tutorref05_classes K0 m).1 (mat n f) (clsF f s).2 (IntKind.i64.wrap ((s : Int) + 1)) ((clsF f s).1 ++ [(clsF f s).1.getD t 0])) none) =
          (run_tutorref05_classes K0 m).1 (mat n f) (clsF f (s + 1)).2 ((s + 1 : Nat) : Int) (clsF f (s + 1)).1 := fun X => by
        rw [br_neg (by omega), br_pos (by
          show ((clsF f s).1.length + 1) * 8 ≤ 140737488355328
          omega), wr _ (by omega) (by omega)]
        simp only [clsF, hc]
        rfl
      by_cases c : ((t + 1 : Nat) : Int) < (s : Int)
      · rw [br_pos c, br_neg (p := (clsF f s).1.getD t 0 < 0) (by omega)]
        exact fin _
      · rw [br_neg c]
        exact fin _

theorem cls_out (hn : n ≤ 1024) (K0 : (List Int) → Option R) : ∀ (d s : Nat), s + d = n → Reach (fun m => (run_tutorref05_classes K0 m).1 (mat n f) (clsF f s).2 s (clsF f s).1) (K0 (clsF f n).1) := by
  intro d
  induction d with
  | zero =>
    intro s hs
    have e : s = n := by omega
    subst e
    refine .now fun m => ?_
    rw [show (run_tutorref05_classes K0 (m + 1)).1 = s_tutorref05_classes_4 (run_tutorref05_classes K0 m).1 (run_tutorref05_classes K0 m).2 K0 from rfl]
    unfold s_tutorref05_classes_4
    rw [mat_len, br_neg (by omega)]
  | succ d ih =>
    intro s hs
    refine .step (fun m => ?_) (cls_in hn K0 (s := s) (by omega) (ih (s + 1) (by omega)) s 0 (by omega) fun i hi => absurd hi (by omega))
    rw [show (run_tutorref05_classes K0 (m + 1)).1 = s_tutorref05_classes_4 (run_tutorref05_classes K0 m).1 (run_tutorref05_classes K0 m).2 K0 from rfl]
    unfold s_tutorref05_classes_4
    rw [mat_len, br_pos (by omega)]
    rfl
end

theorem ok_tutorref05_classes {R : Type} (apart : List (List Bool)) (K0 : (List Int) → Option R) {r : R} (h : l_tutorref05_classes apart K0 = some r) : ∃ fuel, e_tutorref05_classes (run_tutorref05_classes K0 fuel).1 (run_tutorref05_classes K0 fuel).2 K0 apart = some r := by
  unfold l_tutorref05_classes at h
  rcases bi_some h with ⟨hs, h'⟩ | ⟨_, h'⟩
  · obtain ⟨h1, h2⟩ := of_decide_eq_true hs
    rw [← h']
    obtain ⟨n, hn⟩ := (cls_out (f := ofM apart) h1 K0 apart.length 0 (by omega)).get
    refine ⟨n, ?_⟩
    rw [← h2] at hn
    exact hn
  · cases h'

theorem classes_eq {R : Type} {n : Nat} (hn : n ≤ 1024) (f : Nat → Nat → Bool) (K0 : (List Int) → Option R) : l_tutorref05_classes (mat n f) K0 = K0 (clsF (ofM (mat n f)) n).1 := by
  unfold l_tutorref05_classes
  rw [mat_len, br_pos ⟨hn, mat_congr fun s t hs ht => (mat_get hs ht).symm⟩]

abbrev LT_tutorref05_Classes := {R : Type} → Int → Int → Int → Int → (List Int) → (List Int) → (Int → Int → (List Int) → Option R) → Option R
abbrev GT_tutorref05_Classes_6 (R : Type) := Int → Int → Int → Int → Int → (List Int) → (List Int) → (List (List Bool)) → Option R
/-- tutor/tutorref05.Classes -/
def s_tutorref05_Classes_6 {R : Type} (g43_6 : GT_tutorref05_Classes_6 R) (K0 : Int → Int → (List Int) → Option R) (n o0 o0_1 o0_2 o0_3 : Int) (o0_4 o0_5 : List Int) (o1 : List (List Bool)) : Option R :=
  l_tutorref05_round o0 o0_1 o0_2 o0_3 o0_4 o0_5 o1 (o0 == 2)
   (fun r4 r5 =>
    bi (!r4)
     (l_tutorref05_classes o1
      (fun r6 =>
       K0 n 0 r6))
     (g43_6 (IntKind.i64.wrap (n + 1)) o0 o0_1 o0_2 o0_3 o0_4 o0_5 r5))

/-- tutor/tutorref05.Classes -/
def e_tutorref05_Classes {R : Type} (g43_6 : GT_tutorref05_Classes_6 R) (K0 : Int → Int → (List Int) → Option R) (m m_1 m_2 m_3 : Int) (m_4 m_5 : List Int) : Option R :=
  l_tutorref03_Check m m_1 m_2 m_3 m_4 m_5
   (fun r1 r2 =>
    bi (r2 != 0)
     (K0 0 r2 ([] : List Int))
     (l_tutorref05_start m m_1 m_2 m_3 m_4 m_5
      (fun r3 =>
       g43_6 0 m m_1 m_2 m_3 m_4 m_5 r3)))

def run_tutorref05_Classes {R : Type} (K0 : Int → Int → (List Int) → Option R) : Nat → Int → Int → Int → Int → Int → (List Int) → (List Int) → (List (List Bool)) → Option R
  | 0 => fun _ _ _ _ _ _ _ _ => none
  | n + 1 => s_tutorref05_Classes_6 (run_tutorref05_Classes K0 n) K0

theorem round_eq2 {R : Type} {k K O N : Int} {nx ou : List Int} (F : Fine k K O N nx ou) (f : Nat → Nat → Bool) (K0 : Bool → (List (List Bool)) → Option R) :
    l_tutorref05_round k K O N nx ou (mat N.toNat f) (k == 2) K0 = K0 (moreS N.toNat f (apart1 k K nx ou f) N.toNat) (mat N.toNat (apart1 k K nx ou f)) := by
  have e : ∀ s t, s < N.toNat → t < N.toNat → ofM (mat N.toNat f) s t = f s t := fun s t hs ht => ofM_mat f hs ht
  have e1 : ∀ s t, s < N.toNat → t < N.toNat → apart1 k K nx ou (ofM (mat N.toNat f)) s t = apart1 k K nx ou f s t := fun s t hs ht => apart1_congr F e hs ht
  rw [round_eq F, moreS_congr fun i j hi hj => ⟨e1 i j hi hj, e i j hi hj⟩, mat_congr e1]
theorem classes_eq2 {R : Type} {n : Nat} (hn : n ≤ 1024) (f : Nat → Nat → Bool) (K0 : (List Int) → Option R) : l_tutorref05_classes (mat n f) K0 = K0 (clsF f n).1 := by
  rw [classes_eq hn, clsF_congr fun s t hs ht => ofM_mat f hs ht]

/-- The classes: rounds, error, numbers. -/
def classesS (k K O N : Int) (nx ou : List Int) : Int × Int × List Int :=
  if (checkR k K O N nx ou).2 ≠ 0 then (0, (checkR k K O N nx ou).2, []) else
    (((iterM k K N nx ou ((pairsL N.toNat).length + 1) 0 (apart0 k K ou)).1 : Int), 0, (clsF (apartF k K N nx ou) N.toNat).1)

def l_tutorref05_Classes {R : Type} (m : Int) (m_1 : Int) (m_2 : Int) (m_3 : Int) (m_4 : List Int) (m_5 : List Int) (K0 : Int → Int → (List Int) → Option R) : Option R :=
  bi (decide (short m_4 ∧ short m_5)) (K0 (classesS m m_1 m_2 m_3 m_4 m_5).1 (classesS m m_1 m_2 m_3 m_4 m_5).2.1 (classesS m m_1 m_2 m_3 m_4 m_5).2.2) none

theorem classes_run {R : Type} {k K O N : Int} {nx ou : List Int} (F : Fine k K O N nx ou) (K0 : Int → Int → (List Int) → Option R) : ∀ (n i : Nat) (f : Nat → Nat → Bool), (pairsL N.toNat).length < n + cntM N.toNat f → i + n ≤ 1073741824 →
    Reach (fun m => run_tutorref05_Classes K0 m i k K O N nx ou (mat N.toNat f)) (K0 ((iterM k K N nx ou n i f).1 : Int) 0 (clsF (iterM k K N nx ou n i f).2 N.toNat).1)
  | 0, i, f, h, _ => by
    have : cntM N.toNat f ≤ (pairsL N.toNat).length := List.length_filter_le _ _
    omega
  | n + 1, i, f, h, hi => by
    have hN := F.fN
    have hst := iterM_stops F (n + 1) i f h
    have key : ∀ m, run_tutorref05_Classes K0 (m + 1) i k K O N nx ou (mat N.toNat f) = bi (!(moreS N.toNat f (apart1 k K nx ou f) N.toNat)) (K0 (i : Int) 0 (clsF f N.toNat).1) (run_tutorref05_Classes K0 m ((i + 1 : Nat) : Int) k K O N nx ou (mat N.toNat (apart1 k K nx ou f))) := by
      intro m
      rw [show run_tutorref05_Classes K0 (m + 1) = s_tutorref05_Classes_6 (run_tutorref05_Classes K0 m) K0 from rfl]
      unfold s_tutorref05_Classes_6
      rw [round_eq2 F]
      try dsimp only
      rw [classes_eq2 (by omega), wr _ (by omega) (by omega)]
      rfl
    cases hm : moreS N.toNat f (apart1 k K nx ou f) N.toNat with
    | false =>
      have e : iterM k K N nx ou (n + 1) i f = (i, f) := by
        unfold iterM
        rw [hm, if_neg (by decide)]
      rw [e]
      exact .now fun m => by rw [key, hm]; rfl
    | true =>
      have e : iterM k K N nx ou (n + 1) i f = iterM k K N nx ou n (i + 1) (apart1 k K nx ou f) := by
        conv => lhs; unfold iterM
        rw [hm, if_pos rfl]
      rw [e]
      refine .step (fun m => by rw [key, hm]; rfl) (classes_run F K0 n (i + 1) _ ?_ (by omega))
      have hlt : cntM N.toNat f < cntM N.toNat (apart1 k K nx ou f) := by
        refine (filter_less fun p _ hp => apart1_up F hp).2 ?_
        refine Classical.byContradiction fun hc => ?_
        have : moreS N.toNat f (apart1 k K nx ou f) N.toNat = false := moreS_false.2 fun a b ha hb => by
          cases h1 : f a b with
          | true => exact apart1_up F h1
          | false =>
            cases h2 : apart1 k K nx ou f a b with
            | false => rfl
            | true => exact absurd ⟨(a, b), pairsL_mem.2 ⟨ha, hb⟩, h2, h1⟩ hc
        rw [this] at hm
        cases hm
      omega

theorem ok_tutorref05_Classes {R : Type} (m : Int) (m_1 : Int) (m_2 : Int) (m_3 : Int) (m_4 : List Int) (m_5 : List Int) (K0 : Int → Int → (List Int) → Option R) {r : R} (h : l_tutorref05_Classes m m_1 m_2 m_3 m_4 m_5 K0 = some r) : ∃ fuel, e_tutorref05_Classes (run_tutorref05_Classes K0 fuel) K0 m m_1 m_2 m_3 m_4 m_5 = some r := by
  unfold l_tutorref05_Classes at h
  rcases bi_some h with ⟨hs, h'⟩ | ⟨_, h'⟩
  · have hs := of_decide_eq_true hs
    rw [← h']
    unfold e_tutorref05_Classes classesS l_tutorref03_Check
    by_cases c1 : (checkR m m_1 m_2 m_3 m_4 m_5).2 = 0
    · have F := checkR_fine.1 c1
      have hN := F.fN
      have hl := pairsL_len m_3.toNat
      have hb : m_3.toNat * m_3.toNat ≤ 1024 * 1024 := Nat.mul_le_mul (by omega) (by omega)
      obtain ⟨n, hn⟩ := (classes_run F K0 ((pairsL m_3.toNat).length + 1) 0 (apart0 m m_1 m_5) (by omega) (by omega)).get
      refine ⟨n, ?_⟩
      rw [br_pos hs]
      try dsimp only
      rw [br_ne' c1, if_neg (by simpa using c1)]
      unfold l_tutorref05_start
      rw [br_pos c1]
      exact hn
    · refine ⟨0, ?_⟩
      rw [br_pos hs]
      try dsimp only
      rw [br_ne c1, if_pos (by simpa using c1)]
  · cases h'

theorem cls_eq {R : Type} {k K O N : Int} {nx ou : List Int} (h1 : short nx) (h2 : short ou) (K0 : Int → Int → (List Int) → Option R) : l_tutorref05_Classes k K O N nx ou K0 = K0 (classesS k K O N nx ou).1 (classesS k K O N nx ou).2.1 (classesS k K O N nx ou).2.2 := by
  unfold l_tutorref05_Classes
  rw [br_pos ⟨h1, h2⟩]

abbrev LT_tutorref04_Reach := {R : Type} → Int → Int → Int → Int → (List Int) → (List Int) → (Int → (List Int) → (List (List Int)) → Option R) → Option R
abbrev GT_tutorref04_Reach_9 (R : Type) := Int → Int → Int → Int → Int → (List Int) → (List Int) → (List Bool) → (List Int) → (List (List Int)) → Option R
abbrev GT_tutorref04_Reach_12 (R : Type) := Int → Int → Int → Int → Int → Int → (List Int) → (List Int) → (List Bool) → (List Int) → (List (List Int)) → Option R
abbrev GT_tutorref04_Reach_15 (R : Type) := Int → Int → Int → Int → Int → Int → Int → (List Int) → (List Int) → (List Bool) → (List Int) → (List (List Int)) → Option R
/-- tutor/tutorref04.Reach -/
def s_tutorref04_Reach_9 {R : Type} (g62_9 : GT_tutorref04_Reach_9 R) (g62_12 : GT_tutorref04_Reach_12 R) (g62_15 : GT_tutorref04_Reach_15 R) (K0 : Int → (List Int) → (List (List Int)) → Option R) (vfrom o0 o0_1 o0_2 o0_3 : Int) (o0_4 o0_5 : List Int) (o1 : List Bool) (o2 : List Int) (o3 : List (List Int)) : Option R :=
  bi (decide (vfrom < (o2.length : Int)))
   (g62_12 (o2.length : Int) vfrom o0 o0_1 o0_2 o0_3 o0_4 o0_5 o1 o2 o3)
   (K0 0 o2 o3)

/-- tutor/tutorref04.Reach -/
def s_tutorref04_Reach_12 {R : Type} (g62_9 : GT_tutorref04_Reach_9 R) (g62_12 : GT_tutorref04_Reach_12 R) (g62_15 : GT_tutorref04_Reach_15 R) (K0 : Int → (List Int) → (List (List Int)) → Option R) (vuntil i o0 o0_1 o0_2 o0_3 : Int) (o0_4 o0_5 : List Int) (o1 : List Bool) (o2 : List Int) (o3 : List (List Int)) : Option R :=
  bi (decide (i < vuntil))
   (g62_15 vuntil i 0 o0 o0_1 o0_2 o0_3 o0_4 o0_5 o1 o2 o3)
   (g62_9 vuntil o0 o0_1 o0_2 o0_3 o0_4 o0_5 o1 o2 o3)

/-- tutor/tutorref04.Reach -/
def s_tutorref04_Reach_15 {R : Type} (g62_9 : GT_tutorref04_Reach_9 R) (g62_12 : GT_tutorref04_Reach_12 R) (g62_15 : GT_tutorref04_Reach_15 R) (K0 : Int → (List Int) → (List (List Int)) → Option R) (vuntil i x o0 o0_1 o0_2 o0_3 : Int) (o0_4 o0_5 : List Int) (o1 : List Bool) (o2 : List Int) (o3 : List (List Int)) : Option R :=
  bi (decide (x < o0_1))
   (bi (decide (0 ≤ i ∧ i < ((o2.length : Nat) : Int)))
    (bi (decide (0 ≤ (IntKind.i64.wrap ((IntKind.i64.wrap ((o2.getD i.toNat 0) * o0_1)) + x)) ∧ (IntKind.i64.wrap ((IntKind.i64.wrap ((o2.getD i.toNat 0) * o0_1)) + x)) < ((o0_4.length : Nat) : Int)))
     (bi (decide (0 ≤ (o0_4.getD ((IntKind.i64.wrap ((IntKind.i64.wrap ((o2.getD i.toNat 0) * o0_1)) + x)).toNat) 0) ∧ (o0_4.getD ((IntKind.i64.wrap ((IntKind.i64.wrap ((o2.getD i.toNat 0) * o0_1)) + x)).toNat) 0) < ((o1.length : Nat) : Int)))
      (bi (!(o1.getD ((o0_4.getD ((IntKind.i64.wrap ((IntKind.i64.wrap ((o2.getD i.toNat 0) * o0_1)) + x)).toNat) 0).toNat) false))
       (bi (decide (0 ≤ (o0_4.getD ((IntKind.i64.wrap ((IntKind.i64.wrap ((o2.getD i.toNat 0) * o0_1)) + x)).toNat) 0) ∧ (o0_4.getD ((IntKind.i64.wrap ((IntKind.i64.wrap ((o2.getD i.toNat 0) * o0_1)) + x)).toNat) 0) < ((o1.length : Nat) : Int)))
        (bi (decide ((o2.length + [o0_4.getD ((IntKind.i64.wrap ((IntKind.i64.wrap ((o2.getD i.toNat 0) * o0_1)) + x)).toNat) 0].length) * 8 ≤ lim))
         (bi (decide (0 ≤ i ∧ i < ((o3.length : Nat) : Int)))
          (l_tutorref01_Join (o3.getD i.toNat []) [x]
           (fun r3 =>
            bi (decide ((o3.length + [r3].length) * 24 ≤ lim))
             (g62_15 vuntil i (IntKind.i64.wrap (x + 1)) o0 o0_1 o0_2 o0_3 o0_4 o0_5 (o1.set ((o0_4.getD ((IntKind.i64.wrap ((IntKind.i64.wrap ((o2.getD i.toNat 0) * o0_1)) + x)).toNat) 0).toNat) true) (o2 ++ [o0_4.getD ((IntKind.i64.wrap ((IntKind.i64.wrap ((o2.getD i.toNat 0) * o0_1)) + x)).toNat) 0]) (o3 ++ [r3]))
             none))
          none)
         none)
        none)
       (g62_15 vuntil i (IntKind.i64.wrap (x + 1)) o0 o0_1 o0_2 o0_3 o0_4 o0_5 o1 o2 o3))
      none)
     none)
    none)
   (g62_12 vuntil (IntKind.i64.wrap (i + 1)) o0 o0_1 o0_2 o0_3 o0_4 o0_5 o1 o2 o3)

/-- tutor/tutorref04.Reach -/
def e_tutorref04_Reach {R : Type} (g62_9 : GT_tutorref04_Reach_9 R) (g62_12 : GT_tutorref04_Reach_12 R) (g62_15 : GT_tutorref04_Reach_15 R) (K0 : Int → (List Int) → (List (List Int)) → Option R) (m m_1 m_2 m_3 : Int) (m_4 m_5 : List Int) : Option R :=
  l_tutorref03_Check m m_1 m_2 m_3 m_4 m_5
   (fun r1 r2 =>
    bi (r2 != 0)
     (K0 r2 ([] : List Int) ([] : List (List Int)))
     (bi (decide (0 ≤ m_3 ∧ m_3 ≤ m_3 ∧ m_3 ≤ 1073741824))
      (bi (decide (0 ≤ (0 : Int) ∧ (0 : Int) < (((List.replicate m_3.toNat (false : Bool)).length : Nat) : Int)))
       (g62_9 0 m m_1 m_2 m_3 m_4 m_5 ((List.replicate m_3.toNat (false : Bool)).set 0 true) [0] [([] : List Int)])
       none)
      none))

def run_tutorref04_Reach {R : Type} (K0 : Int → (List Int) → (List (List Int)) → Option R) : Nat → (Int → Int → Int → Int → Int → (List Int) → (List Int) → (List Bool) → (List Int) → (List (List Int)) → Option R) × (Int → Int → Int → Int → Int → Int → (List Int) → (List Int) → (List Bool) → (List Int) → (List (List Int)) → Option R) × (Int → Int → Int → Int → Int → Int → Int → (List Int) → (List Int) → (List Bool) → (List Int) → (List (List Int)) → Option R)
  | 0 => (fun _ _ _ _ _ _ _ _ _ _ => none, fun _ _ _ _ _ _ _ _ _ _ _ => none, fun _ _ _ _ _ _ _ _ _ _ _ _ => none)
  | n + 1 => (s_tutorref04_Reach_9 (run_tutorref04_Reach K0 n).1 (run_tutorref04_Reach K0 n).2.1 (run_tutorref04_Reach K0 n).2.2 K0, s_tutorref04_Reach_12 (run_tutorref04_Reach K0 n).1 (run_tutorref04_Reach K0 n).2.1 (run_tutorref04_Reach K0 n).2.2 K0, s_tutorref04_Reach_15 (run_tutorref04_Reach K0 n).1 (run_tutorref04_Reach K0 n).2.1 (run_tutorref04_Reach K0 n).2.2 K0)

/-- All states that are come to, in their order, and by which words. -/
def reachL (k K N : Int) (nx ou : List Int) : List PW := growS (selfD k K N nx ou) (0, 0)

def l_tutorref04_Reach {R : Type} (m : Int) (m_1 : Int) (m_2 : Int) (m_3 : Int) (m_4 : List Int) (m_5 : List Int) (K0 : Int → (List Int) → (List (List Int)) → Option R) : Option R :=
  bi (decide (short m_4 ∧ short m_5)) (if (checkR m m_1 m_2 m_3 m_4 m_5).2 ≠ 0 then K0 (checkR m m_1 m_2 m_3 m_4 m_5).2 [] [] else K0 0 ((reachL m m_1 m_3 m_4 m_5).map (·.1.1)) ((reachL m m_1 m_3 m_4 m_5).map (·.2))) none

/-- Marks of the states that are known; each stands beside itself. -/
structure Seen (N : Int) (o1 : List Bool) (L : List PW) : Prop where
  len : (o1.length : Int) = N
  get : ∀ t : Int, 0 ≤ t → t < N → o1.getD t.toNat false = known L (t, t)
  diag : ∀ e ∈ L, e.1.2 = e.1.1
theorem getD_setB2 (l : List Bool) (i t : Nat) (x : Bool) : (l.set i x).getD t false = if i = t ∧ i < l.length then x else l.getD t false := by
  rw [List.getD_eq_getElem?_getD, List.getElem?_set, List.getD_eq_getElem?_getD]
  by_cases h : i = t
  · subst h
    by_cases h2 : i < l.length
    · simp [h2]
    · simp [h2]
  · simp [h]
theorem known_snoc2 (L : List PW) (p q : Int × Int) (w : List Int) : known (L ++ [(p, w)]) q = (known L q || decide (p = q)) := by
  unfold known
  rw [List.any_append]
  congr 1
  rw [Bool.eq_iff_iff]
  simp [Prod.ext_iff]
theorem Seen.push {N : Int} {o1 : List Bool} {L : List PW} (S : Seen N o1 L) {t : Int} (ht : 0 ≤ t ∧ t < N) (w : List Int) : Seen N (o1.set t.toNat true) (L ++ [((t, t), w)]) := by
  refine ⟨by rw [List.length_set]; exact S.len, fun u h1 h2 => ?_, fun e he => ?_⟩
  · have hl := S.len
    rw [getD_setB2, known_snoc2, S.get u h1 h2]
    by_cases c : t = u
    · subst c
      rw [if_pos ⟨rfl, by omega⟩, decide_eq_true rfl, Bool.or_true]
    · rw [if_neg (by omega), decide_eq_false (fun h => c (Prod.mk.inj h).1), Bool.or_false]
  · rcases List.mem_append.1 he with he | he
    · exact S.diag e he
    · rw [List.mem_singleton] at he
      subst he
      rfl

theorem reach_run {R : Type} {k K O N : Int} {nx ou : List Int} (F : Fine k K O N nx ou) (K0 : Int → (List Int) → (List (List Int)) → Option R) :
    ∀ (n i x u : Nat) (L : List PW) (o1 : List Bool) (L' : List PW), grow (selfD k K N nx ou) n i x L = some L' → Inv (selfD k K N nx ou) (0, 0) L → Seen N o1 L → i < u → u ≤ L.length → x ≤ K.toNat →
    Reach (fun m => (run_tutorref04_Reach K0 m).2.2 u i x k K O N nx ou o1 (L.map (·.1.1)) (L.map (·.2))) (K0 0 (L'.map (·.1.1)) (L'.map (·.2)))
  | 0, _, _, _, _, _, _, h, _, _, _, _, _ => by cases h
  | n + 1, i, x, u, L, o1, L', h, I, S, hiu, hu, hx => by
    have hN := F.fN
    have hK := F.fK
    have hNK := mulK ⟨hN, hK⟩
    have hNN := mul_most hN hN
    have hmost : L.length ≤ (N * N).toNat := I.most
    have hi : i < L.length := by omega
    have hm : L.getD i pw0 ∈ L := getD_mem hi
    have hp := (I.inn _ hm).1
    have hdg := S.diag _ hm
    have hl1 : (L.map (·.1.1)).length = L.length := List.length_map _
    have hl2 : (L.map (·.2)).length = L.length := List.length_map _
    have hg1 : (L.map (·.1.1)).getD i 0 = (L.getD i pw0).1.1 := by rw [getD_of 0 (by omega), List.getElem_map, getD_of pw0 hi]
    have hg2 : (L.map (·.2)).getD i [] = (L.getD i pw0).2 := by rw [getD_of [] (by omega), List.getElem_map, getD_of pw0 hi]
    have hlen := I.len i hi
    unfold grow at h
    by_cases c : (x : Int) < K
    · rw [if_pos (show (x : Int) < (selfD k K N nx ou).K from c)] at h
      have i1 := idx_in (s := (L.getD i pw0).1.1) (N := N) hp (x := (x : Int)) (K := K) ⟨by omega, c⟩
      have f1 := F.fnx
      have hn : 0 ≤ nx.getD ((L.getD i pw0).1.1 * K + x).toNat 0 ∧ nx.getD ((L.getD i pw0).1.1 * K + x).toNat 0 < N := by
        rw [getD_of 0 (by omega)]
        exact F.fnxs _ (List.getElem_mem _)
      have hq : (selfD k K N nx ou).nxt (L.getD i pw0).1 x = (nx.getD ((L.getD i pw0).1.1 * K + x).toNat 0, nx.getD ((L.getD i pw0).1.1 * K + x).toNat 0) := by
        unfold Duo.nxt selfD
        rw [hdg]
      rw [hq] at h
      have hget := S.get _ hn.1 hn.2
      have hsl := S.len
      have key : ∀ m, (run_tutorref04_Reach K0 (m + 1)).2.2 u i x k K O N nx ou o1 (L.map (·.1.1)) (L.map (·.2)) =
          if known L (nx.getD ((L.getD i pw0).1.1 * K + x).toNat 0, nx.getD ((L.getD i pw0).1.1 * K + x).toNat 0) = true then (run_tutorref04_Reach K0 m).2.2 u i ((x + 1 : Nat) : Int) k K O N nx ou o1 (L.map (·.1.1)) (L.map (·.2))
          else (run_tutorref04_Reach K0 m).2.2 u i ((x + 1 : Nat) : Int) k K O N nx ou (o1.set (nx.getD ((L.getD i pw0).1.1 * K + x).toNat 0).toNat true) (L.map (·.1.1) ++ [nx.getD ((L.getD i pw0).1.1 * K + x).toNat 0]) (L.map (·.2) ++ [(L.getD i pw0).2 ++ [(x : Int)]]) := by
        intro m
        rw [show (run_tutorref04_Reach K0 (m + 1)).2.2 = s_tutorref04_Reach_15 (run_tutorref04_Reach K0 m).1 (run_tutorref04_Reach K0 m).2.1 (run_tutorref04_Reach K0 m).2.2 K0 from rfl]
        unfold s_tutorref04_Reach_15
        rw [br_pos c, hl1, hl2, br_pos (by omega), Int.toNat_natCast, hg1, hg2, wr ((L.getD i pw0).1.1 * K) (by omega) (by omega), wr ((L.getD i pw0).1.1 * K + x) (by omega) (by omega), wr ((x : Int) + 1) (by omega) (by omega), br_pos (by omega), br_pos (by omega), hget]
        cases known L (nx.getD ((L.getD i pw0).1.1 * K + x).toNat 0, nx.getD ((L.getD i pw0).1.1 * K + x).toNat 0) with
        | true =>
          rw [show (!true) = false from rfl, br_ff, if_pos rfl]
          rfl
        | false =>
          rw [show (!false) = true from rfl, br_tt, if_neg (by decide), br_pos (by omega), br_pos (by
            show (L.length + 1) * 8 ≤ 140737488355328
            omega), br_pos (by omega), join_eq (by
            show _ + 1 ≤ 1000000000
            omega)]
          try dsimp only
          rw [br_pos (by
            show (L.length + 1) * 24 ≤ 140737488355328
            omega)]
          rfl
      cases hk : known L (nx.getD ((L.getD i pw0).1.1 * K + x).toNat 0, nx.getD ((L.getD i pw0).1.1 * K + x).toNat 0) with
      | true =>
        rw [hk, if_pos rfl] at h
        exact .step (fun m => by rw [key, hk, if_pos rfl]) (reach_run F K0 n i (x + 1) u L o1 L' h I S hiu hu (by omega))
      | false =>
        rw [hk, if_neg (by decide)] at h
        refine .step (fun m => by rw [key, hk, if_neg (by decide)]) ?_
        have hst : (selfD k K N nx ou).st ((selfD k K N nx ou).nxt (L.getD i pw0).1 x) = false := by
          rw [hq]
          exact (self_quiet F _).st
        have I' := I.push (selfD_fine F) hi (x := (x : Int)) ⟨by omega, c⟩ hst (by rw [hq]; exact hk)
        rw [hq] at I'
        have ih := reach_run F K0 n i (x + 1) u _ _ L' h I' (S.push hn _) hiu (by simp; omega) (by omega)
        rw [List.map_append, List.map_append] at ih
        exact ih
    · rw [if_neg (show ¬ (x : Int) < (selfD k K N nx ou).K from c)] at h
      -- to the next place
      have s15 : ∀ m, (run_tutorref04_Reach K0 (m + 1)).2.2 u i x k K O N nx ou o1 (L.map (·.1.1)) (L.map (·.2)) = (run_tutorref04_Reach K0 m).2.1 u ((i + 1 : Nat) : Int) k K O N nx ou o1 (L.map (·.1.1)) (L.map (·.2)) := by
        intro m
        rw [show (run_tutorref04_Reach K0 (m + 1)).2.2 = s_tutorref04_Reach_15 (run_tutorref04_Reach K0 m).1 (run_tutorref04_Reach K0 m).2.1 (run_tutorref04_Reach K0 m).2.2 K0 from rfl]
        unfold s_tutorref04_Reach_15
        rw [br_neg c, wr _ (by omega) (by omega)]
        rfl
      have s12 : ∀ (m a u : Nat), (run_tutorref04_Reach K0 (m + 1)).2.1 u a k K O N nx ou o1 (L.map (·.1.1)) (L.map (·.2)) = if a < u then (run_tutorref04_Reach K0 m).2.2 u a 0 k K O N nx ou o1 (L.map (·.1.1)) (L.map (·.2)) else (run_tutorref04_Reach K0 m).1 u k K O N nx ou o1 (L.map (·.1.1)) (L.map (·.2)) := by
        intro m a u
        rw [show (run_tutorref04_Reach K0 (m + 1)).2.1 = s_tutorref04_Reach_12 (run_tutorref04_Reach K0 m).1 (run_tutorref04_Reach K0 m).2.1 (run_tutorref04_Reach K0 m).2.2 K0 from rfl]
        unfold s_tutorref04_Reach_12
        by_cases ca : a < u
        · rw [br_pos (by omega), if_pos ca]
        · rw [br_neg (by omega), if_neg ca]
      have s9 : ∀ (m u : Nat), (run_tutorref04_Reach K0 (m + 1)).1 u k K O N nx ou o1 (L.map (·.1.1)) (L.map (·.2)) = if u < L.length then (run_tutorref04_Reach K0 m).2.1 L.length u k K O N nx ou o1 (L.map (·.1.1)) (L.map (·.2)) else K0 0 (L.map (·.1.1)) (L.map (·.2)) := by
        intro m u
        rw [show (run_tutorref04_Reach K0 (m + 1)).1 = s_tutorref04_Reach_9 (run_tutorref04_Reach K0 m).1 (run_tutorref04_Reach K0 m).2.1 (run_tutorref04_Reach K0 m).2.2 K0 from rfl]
        unfold s_tutorref04_Reach_9
        rw [hl1]
        by_cases ca : u < L.length
        · rw [br_pos (by omega), if_pos ca]
        · rw [br_neg (by omega), if_neg ca]
      refine .step s15 ?_
      by_cases h3 : i + 1 < L.length
      · rw [if_pos h3] at h
        by_cases cu : i + 1 < u
        · refine .step (fun m => by rw [s12, if_pos cu]) ?_
          exact reach_run F K0 n (i + 1) 0 u L o1 L' h I S cu hu (by omega)
        · have eu : u = i + 1 := by omega
          refine .step (fun m => by rw [s12, if_neg cu]) (.step (fun m => by rw [s9, if_pos (by omega)]) (.step (fun m => by rw [s12, if_pos (by omega)]) ?_))
          rw [eu]
          exact reach_run F K0 n (i + 1) 0 L.length L o1 L' h I S h3 (Nat.le_refl _) (by omega)
      · rw [if_neg h3] at h
        cases h
        refine .step (fun m => by rw [s12, if_neg (by omega)]) (.now fun m => by rw [s9, if_neg (by omega)])

theorem reach_grown {k K O N : Int} {nx ou : List Int} (F : Fine k K O N nx ou) : Grown (selfD k K N nx ou) (0, 0) (reachL k K N nx ou) :=
  growS_spec (selfD_fine F) (by have := F.fN; exact ⟨⟨Int.le_refl 0, by show (0 : Int) < N; omega⟩, ⟨Int.le_refl 0, by show (0 : Int) < N; omega⟩⟩) (self_quiet F 0)

theorem ok_tutorref04_Reach {R : Type} (m : Int) (m_1 : Int) (m_2 : Int) (m_3 : Int) (m_4 : List Int) (m_5 : List Int) (K0 : Int → (List Int) → (List (List Int)) → Option R) {r : R} (h : l_tutorref04_Reach m m_1 m_2 m_3 m_4 m_5 K0 = some r) : ∃ fuel, e_tutorref04_Reach (run_tutorref04_Reach K0 fuel).1 (run_tutorref04_Reach K0 fuel).2.1 (run_tutorref04_Reach K0 fuel).2.2 K0 m m_1 m_2 m_3 m_4 m_5 = some r := by
  unfold l_tutorref04_Reach at h
  rcases bi_some h with ⟨hs, h'⟩ | ⟨_, h'⟩
  · have hs := of_decide_eq_true hs
    unfold e_tutorref04_Reach l_tutorref03_Check
    by_cases c1 : (checkR m m_1 m_2 m_3 m_4 m_5).2 = 0
    · rw [if_neg (by simpa using c1)] at h'
      rw [← h']
      have F := checkR_fine.1 c1
      have hN := F.fN
      have hin : (selfD m m_1 m_3 m_4 m_5).inn (0, 0) := ⟨⟨Int.le_refl 0, by show (0 : Int) < m_3; omega⟩, ⟨Int.le_refl 0, by show (0 : Int) < m_3; omega⟩⟩
      have S0 : Seen m_3 ((List.replicate m_3.toNat false).set (0 : Int).toNat true) ([] ++ [((0, 0), [])]) := by
        refine Seen.push ⟨by rw [List.length_replicate]; omega, fun t h1 h2 => ?_, fun e he => by cases he⟩ ⟨by omega, by omega⟩ []
        rw [List.getD_eq_getElem?_getD, List.getElem?_replicate]
        show (if _ then _ else _ : Option Bool).getD false = false
        split <;> rfl
      have hr := reach_run F K0 _ 0 0 1 _ _ _ (growS_run (selfD_fine F) hin (self_quiet F 0)) (Inv.start hin (self_quiet F 0).st) S0 (by omega) (by simp) (by omega)
      have hr2 : Reach (fun n => (run_tutorref04_Reach K0 n).1 0 m m_1 m_2 m_3 m_4 m_5 ((List.replicate m_3.toNat false).set 0 true) [0] [([] : List Int)]) (K0 0 ((reachL m m_1 m_3 m_4 m_5).map (·.1.1)) ((reachL m m_1 m_3 m_4 m_5).map (·.2))) := by
        refine .step (fun n => ?_) (.step (G := fun n => (run_tutorref04_Reach K0 n).2.2 1 0 0 m m_1 m_2 m_3 m_4 m_5 ((List.replicate m_3.toNat false).set 0 true) [0] [([] : List Int)]) (F := fun n => (run_tutorref04_Reach K0 n).2.1 1 0 m m_1 m_2 m_3 m_4 m_5 ((List.replicate m_3.toNat false).set 0 true) [0] [([] : List Int)]) (fun n => ?_) hr)
        · rw [show (run_tutorref04_Reach K0 (n + 1)).1 = s_tutorref04_Reach_9 (run_tutorref04_Reach K0 n).1 (run_tutorref04_Reach K0 n).2.1 (run_tutorref04_Reach K0 n).2.2 K0 from rfl]
          unfold s_tutorref04_Reach_9
          rw [br_pos (by simp)]
          rfl
        · rw [show (run_tutorref04_Reach K0 (n + 1)).2.1 = s_tutorref04_Reach_12 (run_tutorref04_Reach K0 n).1 (run_tutorref04_Reach K0 n).2.1 (run_tutorref04_Reach K0 n).2.2 K0 from rfl]
          unfold s_tutorref04_Reach_12
          rw [br_pos (by omega)]
      obtain ⟨n, hn⟩ := hr2.get
      refine ⟨n, ?_⟩
      rw [br_pos hs]
      try dsimp only
      rw [br_ne' c1, br_pos (by omega), List.length_replicate, br_pos (by omega)]
      exact hn
    · rw [if_pos (by simpa using c1)] at h'
      rw [← h']
      refine ⟨0, ?_⟩
      rw [br_pos hs]
      try dsimp only
      rw [br_ne c1]
  · cases h'

abbrev LT_tutorref04_pick := {R : Type} → Int → Int → Int → Int → (List Int) → (List Int) → (List Int) → (List Int) → (Int → Int → Int → Int → (List Int) → (List Int) → Option R) → Option R
abbrev GT_tutorref04_pick_3 (R : Type) := (List Int) → (List Int) → Int → Int → Int → Int → Int → (List Int) → (List Int) → Int → Int → Int → Int → (List Int) → (List Int) → Int → Int → Int → Int → (List Int) → (List Int) → Option R
abbrev GT_tutorref04_pick_7 (R : Type) := (List Int) → (List Int) → Int → Int → Int → Int → Int → Int → Int → (List Int) → (List Int) → Int → Int → Int → Int → (List Int) → (List Int) → Int → Int → Int → Int → (List Int) → (List Int) → Option R
/-- tutor/tutorref04.pick -/
def s_tutorref04_pick_3 {R : Type} (g63_3 : GT_tutorref04_pick_3 R) (g63_7 : GT_tutorref04_pick_7 R) (K0 : Int → Int → Int → Int → (List Int) → (List Int) → Option R) (states place : List Int) (i o0 o0_1 o0_2 o0_3 : Int) (o0_4 o0_5 : List Int) (o1 o1_1 o1_2 o1_3 : Int) (o2 o3 : List Int) (o4 o4_1 o4_2 o4_3 : Int) (o5 o6 : List Int) : Option R :=
  bi (decide (i < (states.length : Int)))
   (bi (decide (0 ≤ i ∧ i < ((states.length : Nat) : Int)))
    (g63_7 states place i (states.getD i.toNat 0) 0 o0 o0_1 o0_2 o0_3 o0_4 o0_5 o1 o1_1 o1_2 o1_3 o2 o3 o4 o4_1 o4_2 o4_3 o5 o6)
    none)
   (K0 o4 o4_1 o4_2 o4_3 o5 o6)

/-- tutor/tutorref04.pick -/
def s_tutorref04_pick_7 {R : Type} (g63_3 : GT_tutorref04_pick_3 R) (g63_7 : GT_tutorref04_pick_7 R) (K0 : Int → Int → Int → Int → (List Int) → (List Int) → Option R) (states place : List Int) (i s x o0 o0_1 o0_2 o0_3 : Int) (o0_4 o0_5 : List Int) (o1 o1_1 o1_2 o1_3 : Int) (o2 o3 : List Int) (o4 o4_1 o4_2 o4_3 : Int) (o5 o6 : List Int) : Option R :=
  bi (decide (x < o0_1))
   (bi (decide (0 ≤ (IntKind.i64.wrap ((IntKind.i64.wrap (s * o0_1)) + x)) ∧ (IntKind.i64.wrap ((IntKind.i64.wrap (s * o0_1)) + x)) < ((o0_4.length : Nat) : Int)))
    (bi (decide (0 ≤ (o0_4.getD ((IntKind.i64.wrap ((IntKind.i64.wrap (s * o0_1)) + x)).toNat) 0) ∧ (o0_4.getD ((IntKind.i64.wrap ((IntKind.i64.wrap (s * o0_1)) + x)).toNat) 0) < ((place.length : Nat) : Int)))
     (bi (decide ((o5.length + [place.getD ((o0_4.getD ((IntKind.i64.wrap ((IntKind.i64.wrap (s * o0_1)) + x)).toNat) 0).toNat) 0].length) * 8 ≤ lim))
      (bi (o0 == 2)
       (bi (decide (0 ≤ (IntKind.i64.wrap ((IntKind.i64.wrap (s * o0_1)) + x)) ∧ (IntKind.i64.wrap ((IntKind.i64.wrap (s * o0_1)) + x)) < ((o0_5.length : Nat) : Int)))
        (bi (decide ((o6.length + [o0_5.getD ((IntKind.i64.wrap ((IntKind.i64.wrap (s * o0_1)) + x)).toNat) 0].length) * 8 ≤ lim))
         (g63_7 states place i s (IntKind.i64.wrap (x + 1)) o0 o0_1 o0_2 o0_3 o0_4 o0_5 o1 o1_1 o1_2 o1_3 o2 o3 o4 o4_1 o4_2 o4_3 (o5 ++ [place.getD ((o0_4.getD ((IntKind.i64.wrap ((IntKind.i64.wrap (s * o0_1)) + x)).toNat) 0).toNat) 0]) (o6 ++ [o0_5.getD ((IntKind.i64.wrap ((IntKind.i64.wrap (s * o0_1)) + x)).toNat) 0]))
         none)
        none)
       (g63_7 states place i s (IntKind.i64.wrap (x + 1)) o0 o0_1 o0_2 o0_3 o0_4 o0_5 o1 o1_1 o1_2 o1_3 o2 o3 o4 o4_1 o4_2 o4_3 (o5 ++ [place.getD ((o0_4.getD ((IntKind.i64.wrap ((IntKind.i64.wrap (s * o0_1)) + x)).toNat) 0).toNat) 0]) o6))
      none)
     none)
    none)
   (bi (o0 == 1)
    (bi (decide (0 ≤ s ∧ s < ((o0_5.length : Nat) : Int)))
     (bi (decide ((o6.length + [o0_5.getD s.toNat 0].length) * 8 ≤ lim))
      (g63_3 states place (IntKind.i64.wrap (i + 1)) o0 o0_1 o0_2 o0_3 o0_4 o0_5 o1 o1_1 o1_2 o1_3 o2 o3 o4 o4_1 o4_2 o4_3 o5 (o6 ++ [o0_5.getD s.toNat 0]))
      none)
     none)
    (g63_3 states place (IntKind.i64.wrap (i + 1)) o0 o0_1 o0_2 o0_3 o0_4 o0_5 o1 o1_1 o1_2 o1_3 o2 o3 o4 o4_1 o4_2 o4_3 o5 o6))

/-- tutor/tutorref04.pick -/
def e_tutorref04_pick {R : Type} (g63_3 : GT_tutorref04_pick_3 R) (g63_7 : GT_tutorref04_pick_7 R) (K0 : Int → Int → Int → Int → (List Int) → (List Int) → Option R) (m m_1 m_2 m_3 : Int) (m_4 m_5 states place : List Int) : Option R :=
  g63_3 states place 0 m m_1 m_2 m_3 m_4 m_5 0 0 0 0 ([] : List Int) ([] : List Int) m m_1 m_2 (states.length : Int) ([] : List Int) ([] : List Int)

def run_tutorref04_pick {R : Type} (K0 : Int → Int → Int → Int → (List Int) → (List Int) → Option R) : Nat → ((List Int) → (List Int) → Int → Int → Int → Int → Int → (List Int) → (List Int) → Int → Int → Int → Int → (List Int) → (List Int) → Int → Int → Int → Int → (List Int) → (List Int) → Option R) × ((List Int) → (List Int) → Int → Int → Int → Int → Int → Int → Int → (List Int) → (List Int) → Int → Int → Int → Int → (List Int) → (List Int) → Int → Int → Int → Int → (List Int) → (List Int) → Option R)
  | 0 => (fun _ _ _ _ _ _ _ _ _ _ _ _ _ _ _ _ _ _ _ _ _ => none, fun _ _ _ _ _ _ _ _ _ _ _ _ _ _ _ _ _ _ _ _ _ _ _ => none)
  | n + 1 => (s_tutorref04_pick_3 (run_tutorref04_pick K0 n).1 (run_tutorref04_pick K0 n).2 K0, s_tutorref04_pick_7 (run_tutorref04_pick K0 n).1 (run_tutorref04_pick K0 n).2 K0)

def l_tutorref04_pick {R : Type} (m : Int) (m_1 : Int) (m_2 : Int) (m_3 : Int) (m_4 : List Int) (m_5 : List Int) (states : List Int) (place : List Int) (K0 : Int → Int → Int → Int → (List Int) → (List Int) → Option R) : Option R :=
  bi (decide ((checkR m m_1 m_2 m_3 m_4 m_5).2 = 0 ∧ (∀ s ∈ states, 0 ≤ s ∧ s < m_3) ∧ (place.length : Int) = m_3 ∧ states.length ≤ 1024)) (K0 m m_1 m_2 states.length (pickN m_1 m_4 states place) (pickO m m_1 m_5 states)) none

section
variable {R : Type} {k K O N : Int} {nx ou states place : List Int}

theorem pick_x (F : Fine k K O N nx ou) (hp : (place.length : Int) = N) (K0 : Int → Int → Int → Int → (List Int) → (List Int) → Option R) {v : Option R} {s : Int} (hs : 0 ≤ s ∧ s < N) {i : Nat} (hi : i ≤ 1024) {a b : List Int} (ha : a.length ≤ 1000000) (hb : b.length ≤ 1000000) {n4 : Int}
    (h : Reach (fun m => (run_tutorref04_pick K0 m).1 states place ((i + 1 : Nat) : Int) k K O N nx ou 0 0 0 0 [] [] k K O n4 (a ++ rowN K nx place s K.toNat) (b ++ rowO k K ou s K.toNat ++ endO k ou s)) v) :
    ∀ (d x : Nat), x + d = K.toNat → Reach (fun m => (run_tutorref04_pick K0 m).2 states place i s x k K O N nx ou 0 0 0 0 [] [] k K O n4 (a ++ rowN K nx place s x) (b ++ rowO k K ou s x)) v := by
  have hN := F.fN
  have hK := F.fK
  have hNK := mulK ⟨hN, hK⟩
  have hx := F.fnx
  intro d
  induction d with
  | zero =>
    intro x hxK
    have e : x = K.toNat := by omega
    subst e
    have hro := rowO_len k K ou s K.toNat
    refine .step (fun m => ?_) h
    rw [show (run_tutorref04_pick K0 (m + 1)).2 = s_tutorref04_pick_7 (run_tutorref04_pick K0 m).1 (run_tutorref04_pick K0 m).2 K0 from rfl]
    unfold s_tutorref04_pick_7 endO
    rw [br_neg (by omega), wr _ (by omega) (by omega)]
    by_cases hk : k = 1
    · have := F.fou1 hk
      rw [br_eq hk, br_pos (by omega), br_pos (by
        rw [List.length_append]
        show (_ + _ + 1) * 8 ≤ 140737488355328
        omega), if_pos hk]
      rfl
    · rw [br_eq' hk, if_neg hk, List.append_nil]
      rfl
  | succ d ih =>
    intro x hxK
    have hlt : (x : Int) < K := by omega
    have i1 := idx_in hs (x := (x : Int)) (K := K) ⟨by omega, hlt⟩
    have hn : 0 ≤ nx.getD (s * K + x).toNat 0 ∧ nx.getD (s * K + x).toNat 0 < N := by
      rw [getD_of 0 (by omega)]
      exact F.fnxs _ (List.getElem_mem _)
    have hro := rowO_len k K ou s x
    have ih' := ih (x + 1) (by omega)
    rw [rowN_next, rowO_next, ← List.append_assoc, ← List.append_assoc] at ih'
    refine .step (fun m => ?_) ih'
    rw [show (run_tutorref04_pick K0 (m + 1)).2 = s_tutorref04_pick_7 (run_tutorref04_pick K0 m).1 (run_tutorref04_pick K0 m).2 K0 from rfl]
    unfold s_tutorref04_pick_7
    rw [br_pos hlt, wr (s * K) (by omega) (by omega), wr (s * K + x) (by omega) (by omega), wr ((x : Int) + 1) (by omega) (by omega), br_pos (by omega), br_pos (by omega), br_pos (by
      rw [List.length_append, rowN_len]
      show (_ + _ + 1) * 8 ≤ 140737488355328
      omega)]
    by_cases hk : k = 2
    · have := F.fou2 hk
      rw [br_eq hk, br_pos (by omega), br_pos (by
        rw [List.length_append]
        show (_ + _ + 1) * 8 ≤ 140737488355328
        omega), if_pos hk]
      rfl
    · rw [br_eq' hk, if_neg hk, List.append_nil]
      rfl

theorem pickN_most (hK : 0 ≤ K ∧ K ≤ 64) {l : List Int} (hl : l.length ≤ 1024) : (pickN K nx l place).length ≤ 65536 := by
  rw [pickN_len]
  have : l.length * K.toNat ≤ 1024 * 64 := Nat.mul_le_mul hl (by omega)
  omega
theorem pickO_most (hK : 0 ≤ K ∧ K ≤ 64) {l : List Int} (hl : l.length ≤ 1024) : (pickO k K ou l).length ≤ 65536 := by
  rw [pickO_len]
  split
  · omega
  · have : l.length * K.toNat ≤ 1024 * 64 := Nat.mul_le_mul hl (by omega)
    omega

theorem pick_i (F : Fine k K O N nx ou) (hst : ∀ s ∈ states, 0 ≤ s ∧ s < N) (hp : (place.length : Int) = N) (hsl : states.length ≤ 1024) (K0 : Int → Int → Int → Int → (List Int) → (List Int) → Option R) : ∀ (d i : Nat), i + d = states.length →
    Reach (fun m => (run_tutorref04_pick K0 m).1 states place i k K O N nx ou 0 0 0 0 [] [] k K O (states.length : Int) (pickN K nx (states.take i) place) (pickO k K ou (states.take i))) (K0 k K O states.length (pickN K nx states place) (pickO k K ou states)) := by
  have hK := F.fK
  intro d
  induction d with
  | zero =>
    intro i hi
    refine .now fun m => ?_
    rw [show (run_tutorref04_pick K0 (m + 1)).1 = s_tutorref04_pick_3 (run_tutorref04_pick K0 m).1 (run_tutorref04_pick K0 m).2 K0 from rfl]
    unfold s_tutorref04_pick_3
    rw [br_neg (by omega), List.take_of_length_le (by omega)]
  | succ d ih =>
    intro i hi
    have hi' : i < states.length := by omega
    have ih' := ih (i + 1) (by omega)
    rw [List.take_add_one, List.getElem?_eq_getElem hi', show (some states[i]).toList = [states[i]] from rfl, pickN_snoc, pickO_snoc F.fk] at ih'
    have htl : (states.take i).length ≤ 1024 := by rw [List.length_take]; omega
    have h1 := pickN_most (nx := nx) (place := place) (K := K) (by omega) htl
    have h2 := pickO_most (k := k) (ou := ou) (K := K) (by omega) htl
    have := pick_x F hp K0 (hst _ (List.getElem_mem hi')) (i := i) (by omega) (by omega) (by omega) ih' K.toNat 0 (by omega)
    refine .step (fun m => ?_) this
    rw [show (run_tutorref04_pick K0 (m + 1)).1 = s_tutorref04_pick_3 (run_tutorref04_pick K0 m).1 (run_tutorref04_pick K0 m).2 K0 from rfl]
    unfold s_tutorref04_pick_3
    rw [br_pos (by omega), br_pos (by omega), Int.toNat_natCast, getD_of 0 hi']
    have e1 : rowN K nx place states[i] 0 = [] := rfl
    have e2 : rowO k K ou states[i] 0 = [] := by unfold rowO; split <;> rfl
    rw [e1, e2, List.append_nil, List.append_nil]
    rfl
end

theorem ok_tutorref04_pick {R : Type} (m : Int) (m_1 : Int) (m_2 : Int) (m_3 : Int) (m_4 : List Int) (m_5 : List Int) (states : List Int) (place : List Int) (K0 : Int → Int → Int → Int → (List Int) → (List Int) → Option R) {r : R} (h : l_tutorref04_pick m m_1 m_2 m_3 m_4 m_5 states place K0 = some r) : ∃ fuel, e_tutorref04_pick (run_tutorref04_pick K0 fuel).1 (run_tutorref04_pick K0 fuel).2 K0 m m_1 m_2 m_3 m_4 m_5 states place = some r := by
  unfold l_tutorref04_pick at h
  rcases bi_some h with ⟨hs, h'⟩ | ⟨_, h'⟩
  · obtain ⟨hc, h1, h2, h3⟩ := of_decide_eq_true hs
    have F := checkR_fine.1 hc
    rw [← h']
    obtain ⟨n, hn⟩ := (pick_i F h1 h2 h3 K0 states.length 0 (by omega)).get
    refine ⟨n, ?_⟩
    have e : pickO m m_1 m_5 (states.take 0) = [] := by unfold pickO; split <;> rfl
    rw [e] at hn
    exact hn
  · cases h'
theorem pick_eq {R : Type} {k K O N : Int} {nx ou states place : List Int} (F : Fine k K O N nx ou) (h1 : ∀ s ∈ states, 0 ≤ s ∧ s < N) (h2 : (place.length : Int) = N) (h3 : states.length ≤ 1024) (K0 : Int → Int → Int → Int → (List Int) → (List Int) → Option R) :
    l_tutorref04_pick k K O N nx ou states place K0 = K0 k K O states.length (pickN K nx states place) (pickO k K ou states) := by
  unfold l_tutorref04_pick
  rw [br_pos ⟨checkR_fine.2 F, h1, h2, h3⟩]

abbrev LT_tutorref04_Canon := {R : Type} → Int → Int → Int → Int → (List Int) → (List Int) → (Int → Int → Int → Int → Int → (List Int) → (List Int) → Option R) → Option R
abbrev GT_tutorref04_Canon_6 (R : Type) := Int → Int → Int → Int → Int → (List Int) → (List Int) → Int → Int → Int → Int → (List Int) → (List Int) → (List Int) → (List Int) → Option R
/-- tutor/tutorref04.Canon -/
def s_tutorref04_Canon_6 {R : Type} (g44_6 : GT_tutorref04_Canon_6 R) (K0 : Int → Int → Int → Int → Int → (List Int) → (List Int) → Option R) (i o0 o0_1 o0_2 o0_3 : Int) (o0_4 o0_5 : List Int) (o1 o1_1 o1_2 o1_3 : Int) (o2 o3 o4 o5 : List Int) : Option R :=
  bi (decide (i < (o4.length : Int)))
   (bi (decide (0 ≤ i ∧ i < ((o4.length : Nat) : Int)))
    (bi (decide (0 ≤ (o4.getD i.toNat 0) ∧ (o4.getD i.toNat 0) < ((o5.length : Nat) : Int)))
     (g44_6 (IntKind.i64.wrap (i + 1)) o0 o0_1 o0_2 o0_3 o0_4 o0_5 o1 o1_1 o1_2 o1_3 o2 o3 o4 (o5.set ((o4.getD i.toNat 0).toNat) i))
     none)
    none)
   (l_tutorref04_pick o0 o0_1 o0_2 o0_3 o0_4 o0_5 o4 o5
    (fun r4 r5 r6 r7 r8 r9 =>
     K0 r4 r5 r6 r7 0 r8 r9))

/-- tutor/tutorref04.Canon -/
def e_tutorref04_Canon {R : Type} (g44_6 : GT_tutorref04_Canon_6 R) (K0 : Int → Int → Int → Int → Int → (List Int) → (List Int) → Option R) (m m_1 m_2 m_3 : Int) (m_4 m_5 : List Int) : Option R :=
  l_tutorref04_Reach m m_1 m_2 m_3 m_4 m_5
   (fun r1 r2 r3 =>
    bi (r1 != 0)
     (K0 0 0 0 0 r1 ([] : List Int) ([] : List Int))
     (bi (decide (0 ≤ m_3 ∧ m_3 ≤ m_3 ∧ m_3 ≤ 1073741824))
      (g44_6 0 m m_1 m_2 m_3 m_4 m_5 0 0 0 0 ([] : List Int) ([] : List Int) r2 (List.replicate m_3.toNat (0 : Int)))
      none))

def run_tutorref04_Canon {R : Type} (K0 : Int → Int → Int → Int → Int → (List Int) → (List Int) → Option R) : Nat → Int → Int → Int → Int → Int → (List Int) → (List Int) → Int → Int → Int → Int → (List Int) → (List Int) → (List Int) → (List Int) → Option R
  | 0 => fun _ _ _ _ _ _ _ _ _ _ _ _ _ _ _ => none
  | n + 1 => s_tutorref04_Canon_6 (run_tutorref04_Canon K0 n) K0

/-- The one form of a machine. -/
def canonS (k K O N : Int) (nx ou : List Int) : Int × Int × Int × Int × Int × List Int × List Int :=
  if (checkR k K O N nx ou).2 ≠ 0 then (0, 0, 0, 0, (checkR k K O N nx ou).2, [], []) else
    (k, K, O, ((reachL k K N nx ou).length : Int), 0, pickN K nx ((reachL k K N nx ou).map (·.1.1)) (placeS ((reachL k K N nx ou).map (·.1.1)) (reachL k K N nx ou).length (List.replicate N.toNat 0)), pickO k K ou ((reachL k K N nx ou).map (·.1.1)))

def l_tutorref04_Canon {R : Type} (m : Int) (m_1 : Int) (m_2 : Int) (m_3 : Int) (m_4 : List Int) (m_5 : List Int) (K0 : Int → Int → Int → Int → Int → (List Int) → (List Int) → Option R) : Option R :=
  bi (decide (short m_4 ∧ short m_5)) (K0 (canonS m m_1 m_2 m_3 m_4 m_5).1 (canonS m m_1 m_2 m_3 m_4 m_5).2.1 (canonS m m_1 m_2 m_3 m_4 m_5).2.2.1 (canonS m m_1 m_2 m_3 m_4 m_5).2.2.2.1 (canonS m m_1 m_2 m_3 m_4 m_5).2.2.2.2.1 (canonS m m_1 m_2 m_3 m_4 m_5).2.2.2.2.2.1 (canonS m m_1 m_2 m_3 m_4 m_5).2.2.2.2.2.2) none

/-- The states that are come to. -/
theorem reach_states {k K O N : Int} {nx ou : List Int} (F : Fine k K O N nx ou) : (∀ s ∈ (reachL k K N nx ou).map (·.1.1), 0 ≤ s ∧ s < N) ∧ ((reachL k K N nx ou).map (·.1.1)).Nodup ∧ (reachL k K N nx ou).length ≤ 1024 ∧ (∀ e ∈ reachL k K N nx ou, e.1.2 = e.1.1) := by
  have G := reach_grown F
  have hN := F.fN
  have h1 : ∀ s ∈ (reachL k K N nx ou).map (·.1.1), 0 ≤ s ∧ s < N := fun s hs => by
    obtain ⟨e, he, rfl⟩ := List.mem_map.1 hs
    exact (G.inv.inn e he).1
  have hd : ∀ e ∈ reachL k K N nx ou, e.1.2 = e.1.1 := fun e he => by
    have := G.go e he
    rw [go_fst] at this
    rw [← this]
    rfl
  have h2 : ((reachL k K N nx ou).map (·.1.1)).Nodup := by
    have nd := G.inv.nd
    have e : (reachL k K N nx ou).map (·.1) = ((reachL k K N nx ou).map (·.1.1)).map fun s => (s, s) := by
      rw [List.map_map]
      refine List.map_congr_left fun e he => ?_
      show e.1 = (e.1.1, e.1.1)
      exact Prod.ext rfl (hd e he)
    rw [e] at nd
    generalize (reachL k K N nx ou).map (·.1.1) = l at nd
    induction l with
    | nil => simp
    | cons a t ih =>
      rw [List.map_cons, List.nodup_cons] at nd
      rw [List.nodup_cons]
      exact ⟨fun h => nd.1 (List.mem_map.2 ⟨a, h, rfl⟩), ih nd.2⟩
  refine ⟨h1, h2, ?_, hd⟩
  have := nodup_le N.toNat (((reachL k K N nx ou).map (·.1.1)).map Int.toNat) (by
    generalize (reachL k K N nx ou).map (·.1.1) = l at h1 h2
    induction l with
    | nil => simp
    | cons a t ih =>
      rw [List.nodup_cons] at h2
      rw [List.map_cons, List.nodup_cons]
      refine ⟨fun h => ?_, ih (fun s hs => h1 s (by simp [hs])) h2.2⟩
      obtain ⟨b, hb, e⟩ := List.mem_map.1 h
      have ha := h1 a (by simp)
      have hb' := h1 b (by simp [hb])
      exact h2.1 (by rw [show a = b by omega]; exact hb)) (fun x hx => by
    obtain ⟨s, hs, rfl⟩ := List.mem_map.1 hx
    have := h1 s hs
    omega)
  rw [List.length_map, List.length_map] at this
  omega

theorem canon_run {R : Type} {k K O N : Int} {nx ou : List Int} (F : Fine k K O N nx ou) {states : List Int} (hst : ∀ s ∈ states, 0 ≤ s ∧ s < N) (hsl : states.length ≤ 1024) (K0 : Int → Int → Int → Int → Int → (List Int) → (List Int) → Option R) : ∀ (d i : Nat), i + d = states.length →
    Reach (fun m => run_tutorref04_Canon K0 m i k K O N nx ou 0 0 0 0 [] [] states (placeS states i (List.replicate N.toNat 0))) (K0 k K O (states.length : Int) 0 (pickN K nx states (placeS states states.length (List.replicate N.toNat 0))) (pickO k K ou states)) := by
  have hN := F.fN
  intro d
  induction d with
  | zero =>
    intro i hi
    have e : i = states.length := by omega
    subst e
    refine .now fun m => ?_
    rw [show run_tutorref04_Canon K0 (m + 1) = s_tutorref04_Canon_6 (run_tutorref04_Canon K0 m) K0 from rfl]
    unfold s_tutorref04_Canon_6
    rw [br_neg (by omega), pick_eq F hst (by rw [placeS_len, List.length_replicate]; omega) hsl]
  | succ d ih =>
    intro i hi
    have hi' : i < states.length := by omega
    have hs := hst _ (getD_mem (d := 0) hi')
    refine .step (fun m => ?_) (ih (i + 1) (by omega))
    rw [show run_tutorref04_Canon K0 (m + 1) = s_tutorref04_Canon_6 (run_tutorref04_Canon K0 m) K0 from rfl]
    unfold s_tutorref04_Canon_6
    rw [br_pos (by omega), br_pos (by omega), Int.toNat_natCast, placeS_len, List.length_replicate, br_pos (by omega), wr _ (by omega) (by omega)]
    rfl

theorem ok_tutorref04_Canon {R : Type} (m : Int) (m_1 : Int) (m_2 : Int) (m_3 : Int) (m_4 : List Int) (m_5 : List Int) (K0 : Int → Int → Int → Int → Int → (List Int) → (List Int) → Option R) {r : R} (h : l_tutorref04_Canon m m_1 m_2 m_3 m_4 m_5 K0 = some r) : ∃ fuel, e_tutorref04_Canon (run_tutorref04_Canon K0 fuel) K0 m m_1 m_2 m_3 m_4 m_5 = some r := by
  unfold l_tutorref04_Canon at h
  rcases bi_some h with ⟨hs, h'⟩ | ⟨_, h'⟩
  · have hs := of_decide_eq_true hs
    rw [← h']
    unfold e_tutorref04_Canon canonS l_tutorref04_Reach
    by_cases c1 : (checkR m m_1 m_2 m_3 m_4 m_5).2 = 0
    · have F := checkR_fine.1 c1
      have hN := F.fN
      obtain ⟨h1, h2, h3, _⟩ := reach_states F
      obtain ⟨n, hn⟩ := (canon_run F h1 (by rw [List.length_map]; exact h3) K0 _ 0 (Nat.zero_add _)).get
      refine ⟨n, ?_⟩
      rw [br_pos hs, if_neg (by simpa using c1), if_neg (by simpa using c1)]
      try dsimp only
      rw [br_ne' rfl, br_pos (by omega)]
      rw [List.length_map] at hn
      exact hn
    · refine ⟨0, ?_⟩
      rw [br_pos hs, if_pos (by simpa using c1), if_pos (by simpa using c1)]
      try dsimp only
      rw [br_ne c1]
  · cases h'
theorem canon_eq {R : Type} {k K O N : Int} {nx ou : List Int} (h1 : short nx) (h2 : short ou) (K0 : Int → Int → Int → Int → Int → (List Int) → (List Int) → Option R) :
    l_tutorref04_Canon k K O N nx ou K0 = K0 (canonS k K O N nx ou).1 (canonS k K O N nx ou).2.1 (canonS k K O N nx ou).2.2.1 (canonS k K O N nx ou).2.2.2.1 (canonS k K O N nx ou).2.2.2.2.1 (canonS k K O N nx ou).2.2.2.2.2.1 (canonS k K O N nx ou).2.2.2.2.2.2 := by
  unfold l_tutorref04_Canon
  rw [br_pos ⟨h1, h2⟩]

abbrev LT_tutorref05_Minimise := {R : Type} → Int → Int → Int → Int → (List Int) → (List Int) → (Int → Int → Int → Int → Int → (List Int) → (List Int) → Option R) → Option R
abbrev GT_tutorref05_Minimise_6 (R : Type) := Int → Int → Int → Int → Int → (List Int) → (List Int) → Int → Int → Int → Int → (List Int) → (List Int) → (List Int) → Int → Int → Int → Int → (List Int) → (List Int) → Option R
abbrev GT_tutorref05_Minimise_11 (R : Type) := Int → Int → Int → Int → Int → Int → (List Int) → (List Int) → Int → Int → Int → Int → (List Int) → (List Int) → (List Int) → Int → Int → Int → Int → (List Int) → (List Int) → Option R
/-- tutor/tutorref05.Minimise -/
def s_tutorref05_Minimise_6 {R : Type} (g27_6 : GT_tutorref05_Minimise_6 R) (g27_11 : GT_tutorref05_Minimise_11 R) (K0 : Int → Int → Int → Int → Int → (List Int) → (List Int) → Option R) (s o0 o0_1 o0_2 o0_3 : Int) (o0_4 o0_5 : List Int) (o1 o1_1 o1_2 o1_3 : Int) (o2 o3 o4 : List Int) (o5 o5_1 o5_2 o5_3 : Int) (o6 o7 : List Int) : Option R :=
  bi (decide (s < o0_3))
   (bi (decide (0 ≤ s ∧ s < ((o4.length : Nat) : Int)))
    (bi ((o4.getD s.toNat 0) != o5_3)
     (g27_6 (IntKind.i64.wrap (s + 1)) o0 o0_1 o0_2 o0_3 o0_4 o0_5 o1 o1_1 o1_2 o1_3 o2 o3 o4 o5 o5_1 o5_2 o5_3 o6 o7)
     (g27_11 s 0 o0 o0_1 o0_2 o0_3 o0_4 o0_5 o1 o1_1 o1_2 o1_3 o2 o3 o4 o5 o5_1 o5_2 (IntKind.i64.wrap (o5_3 + 1)) o6 o7))
    none)
   (l_tutorref04_Canon o5 o5_1 o5_2 o5_3 o6 o7
    (fun r4 r5 r6 r7 r8 r9 r10 =>
     K0 r4 r5 r6 r7 r8 r9 r10))

/-- tutor/tutorref05.Minimise -/
def s_tutorref05_Minimise_11 {R : Type} (g27_6 : GT_tutorref05_Minimise_6 R) (g27_11 : GT_tutorref05_Minimise_11 R) (K0 : Int → Int → Int → Int → Int → (List Int) → (List Int) → Option R) (s x o0 o0_1 o0_2 o0_3 : Int) (o0_4 o0_5 : List Int) (o1 o1_1 o1_2 o1_3 : Int) (o2 o3 o4 : List Int) (o5 o5_1 o5_2 o5_3 : Int) (o6 o7 : List Int) : Option R :=
  bi (decide (x < o0_1))
   (bi (decide (0 ≤ (IntKind.i64.wrap ((IntKind.i64.wrap (s * o0_1)) + x)) ∧ (IntKind.i64.wrap ((IntKind.i64.wrap (s * o0_1)) + x)) < ((o0_4.length : Nat) : Int)))
    (bi (decide (0 ≤ (o0_4.getD ((IntKind.i64.wrap ((IntKind.i64.wrap (s * o0_1)) + x)).toNat) 0) ∧ (o0_4.getD ((IntKind.i64.wrap ((IntKind.i64.wrap (s * o0_1)) + x)).toNat) 0) < ((o4.length : Nat) : Int)))
     (bi (decide ((o6.length + [o4.getD ((o0_4.getD ((IntKind.i64.wrap ((IntKind.i64.wrap (s * o0_1)) + x)).toNat) 0).toNat) 0].length) * 8 ≤ lim))
      (bi (o0 == 2)
       (bi (decide (0 ≤ (IntKind.i64.wrap ((IntKind.i64.wrap (s * o0_1)) + x)) ∧ (IntKind.i64.wrap ((IntKind.i64.wrap (s * o0_1)) + x)) < ((o0_5.length : Nat) : Int)))
        (bi (decide ((o7.length + [o0_5.getD ((IntKind.i64.wrap ((IntKind.i64.wrap (s * o0_1)) + x)).toNat) 0].length) * 8 ≤ lim))
         (g27_11 s (IntKind.i64.wrap (x + 1)) o0 o0_1 o0_2 o0_3 o0_4 o0_5 o1 o1_1 o1_2 o1_3 o2 o3 o4 o5 o5_1 o5_2 o5_3 (o6 ++ [o4.getD ((o0_4.getD ((IntKind.i64.wrap ((IntKind.i64.wrap (s * o0_1)) + x)).toNat) 0).toNat) 0]) (o7 ++ [o0_5.getD ((IntKind.i64.wrap ((IntKind.i64.wrap (s * o0_1)) + x)).toNat) 0]))
         none)
        none)
       (g27_11 s (IntKind.i64.wrap (x + 1)) o0 o0_1 o0_2 o0_3 o0_4 o0_5 o1 o1_1 o1_2 o1_3 o2 o3 o4 o5 o5_1 o5_2 o5_3 (o6 ++ [o4.getD ((o0_4.getD ((IntKind.i64.wrap ((IntKind.i64.wrap (s * o0_1)) + x)).toNat) 0).toNat) 0]) o7))
      none)
     none)
    none)
   (bi (o0 == 1)
    (bi (decide (0 ≤ s ∧ s < ((o0_5.length : Nat) : Int)))
     (bi (decide ((o7.length + [o0_5.getD s.toNat 0].length) * 8 ≤ lim))
      (g27_6 (IntKind.i64.wrap (s + 1)) o0 o0_1 o0_2 o0_3 o0_4 o0_5 o1 o1_1 o1_2 o1_3 o2 o3 o4 o5 o5_1 o5_2 o5_3 o6 (o7 ++ [o0_5.getD s.toNat 0]))
      none)
     none)
    (g27_6 (IntKind.i64.wrap (s + 1)) o0 o0_1 o0_2 o0_3 o0_4 o0_5 o1 o1_1 o1_2 o1_3 o2 o3 o4 o5 o5_1 o5_2 o5_3 o6 o7))

/-- tutor/tutorref05.Minimise -/
def e_tutorref05_Minimise {R : Type} (g27_6 : GT_tutorref05_Minimise_6 R) (g27_11 : GT_tutorref05_Minimise_11 R) (K0 : Int → Int → Int → Int → Int → (List Int) → (List Int) → Option R) (m m_1 m_2 m_3 : Int) (m_4 m_5 : List Int) : Option R :=
  l_tutorref05_Classes m m_1 m_2 m_3 m_4 m_5
   (fun r1 r2 r3 =>
    bi (r2 != 0)
     (K0 0 0 0 0 r2 ([] : List Int) ([] : List Int))
     (g27_6 0 m m_1 m_2 m_3 m_4 m_5 0 0 0 0 ([] : List Int) ([] : List Int) r3 m m_1 m_2 0 ([] : List Int) ([] : List Int)))

def run_tutorref05_Minimise {R : Type} (K0 : Int → Int → Int → Int → Int → (List Int) → (List Int) → Option R) : Nat → (Int → Int → Int → Int → Int → (List Int) → (List Int) → Int → Int → Int → Int → (List Int) → (List Int) → (List Int) → Int → Int → Int → Int → (List Int) → (List Int) → Option R) × (Int → Int → Int → Int → Int → Int → (List Int) → (List Int) → Int → Int → Int → Int → (List Int) → (List Int) → (List Int) → Int → Int → Int → Int → (List Int) → (List Int) → Option R)
  | 0 => (fun _ _ _ _ _ _ _ _ _ _ _ _ _ _ _ _ _ _ _ _ => none, fun _ _ _ _ _ _ _ _ _ _ _ _ _ _ _ _ _ _ _ _ _ => none)
  | n + 1 => (s_tutorref05_Minimise_6 (run_tutorref05_Minimise K0 n).1 (run_tutorref05_Minimise K0 n).2 K0, s_tutorref05_Minimise_11 (run_tutorref05_Minimise K0 n).1 (run_tutorref05_Minimise K0 n).2 K0)

/-- The least machine, in its one form. -/
def minimS (k K O N : Int) (nx ou : List Int) : Int × Int × Int × Int × Int × List Int × List Int :=
  if (checkR k K O N nx ou).2 ≠ 0 then (0, 0, 0, 0, (checkR k K O N nx ou).2, [], []) else
    canonS k K O ((repsL (apartF k K N nx ou) N.toNat).length : Int) (pickN K nx (repsL (apartF k K N nx ou) N.toNat) (clsF (apartF k K N nx ou) N.toNat).1) (pickO k K ou (repsL (apartF k K N nx ou) N.toNat))

def l_tutorref05_Minimise {R : Type} (m : Int) (m_1 : Int) (m_2 : Int) (m_3 : Int) (m_4 : List Int) (m_5 : List Int) (K0 : Int → Int → Int → Int → Int → (List Int) → (List Int) → Option R) : Option R :=
  bi (decide (short m_4 ∧ short m_5)) (K0 (minimS m m_1 m_2 m_3 m_4 m_5).1 (minimS m m_1 m_2 m_3 m_4 m_5).2.1 (minimS m m_1 m_2 m_3 m_4 m_5).2.2.1 (minimS m m_1 m_2 m_3 m_4 m_5).2.2.2.1 (minimS m m_1 m_2 m_3 m_4 m_5).2.2.2.2.1 (minimS m m_1 m_2 m_3 m_4 m_5).2.2.2.2.2.1 (minimS m m_1 m_2 m_3 m_4 m_5).2.2.2.2.2.2) none

section
variable {R : Type} {k K O N : Int} {nx ou place : List Int}

theorem min_x (F : Fine k K O N nx ou) (hp : (place.length : Int) = N) (K0 : Int → Int → Int → Int → Int → (List Int) → (List Int) → Option R) {v : Option R} {s : Nat} (hs : (s : Int) < N) {a b : List Int} (ha : a.length ≤ 1000000) (hb : b.length ≤ 1000000) {n4 : Int}
    (h : Reach (fun m => (run_tutorref05_Minimise K0 m).1 ((s + 1 : Nat) : Int) k K O N nx ou 0 0 0 0 [] [] place k K O n4 (a ++ rowN K nx place s K.toNat) (b ++ rowO k K ou s K.toNat ++ endO k ou s)) v) :
    ∀ (d x : Nat), x + d = K.toNat → Reach (fun m => (run_tutorref05_Minimise K0 m).2 s x k K O N nx ou 0 0 0 0 [] [] place k K O n4 (a ++ rowN K nx place s x) (b ++ rowO k K ou s x)) v := by
  have hN := F.fN
  have hK := F.fK
  have hNK := mulK ⟨hN, hK⟩
  have hx := F.fnx
  intro d
  induction d with
  | zero =>
    intro x hxK
    have e : x = K.toNat := by omega
    subst e
    have hro := rowO_len k K ou s K.toNat
    refine .step (fun m => ?_) h
    rw [show (run_tutorref05_Minimise K0 (m + 1)).2 = s_tutorref05_Minimise_11 (run_tutorref05_Minimise K0 m).1 (run_tutorref05_Minimise K0 m).2 K0 from rfl]
    unfold s_tutorref05_Minimise_11 endO
    rw [br_neg (by omega), wr _ (by omega) (by omega)]
    by_cases hk : k = 1
    · have := F.fou1 hk
      rw [br_eq hk, br_pos (by omega), br_pos (by
        rw [List.length_append]
        show (_ + _ + 1) * 8 ≤ 140737488355328
        omega), if_pos hk]
      rfl
    · rw [br_eq' hk, if_neg hk, List.append_nil]
      rfl
  | succ d ih =>
    intro x hxK
    have hlt : (x : Int) < K := by omega
    have i1 := idx_in (s := (s : Int)) (N := N) ⟨by omega, hs⟩ (x := (x : Int)) (K := K) ⟨by omega, hlt⟩
    have hn : 0 ≤ nx.getD ((s : Int) * K + x).toNat 0 ∧ nx.getD ((s : Int) * K + x).toNat 0 < N := by
      rw [getD_of 0 (by omega)]
      exact F.fnxs _ (List.getElem_mem _)
    have hro := rowO_len k K ou s x
    have ih' := ih (x + 1) (by omega)
    rw [rowN_next, rowO_next, ← List.append_assoc, ← List.append_assoc] at ih'
    refine .step (fun m => ?_) ih'
    rw [show (run_tutorref05_Minimise K0 (m + 1)).2 = s_tutorref05_Minimise_11 (run_tutorref05_Minimise K0 m).1 (run_tutorref05_Minimise K0 m).2 K0 from rfl]
    unfold s_tutorref05_Minimise_11
    rw [br_pos hlt, wr ((s : Int) * K) (by omega) (by omega), wr ((s : Int) * K + x) (by omega) (by omega), wr ((x : Int) + 1) (by omega) (by omega), br_pos (by omega), br_pos (by omega), br_pos (by
      rw [List.length_append, rowN_len]
      show (_ + _ + 1) * 8 ≤ 140737488355328
      omega)]
    by_cases hk : k = 2
    · have := F.fou2 hk
      rw [br_eq hk, br_pos (by omega), br_pos (by
        rw [List.length_append]
        show (_ + _ + 1) * 8 ≤ 140737488355328
        omega), if_pos hk]
      rfl
    · rw [br_eq' hk, if_neg hk, List.append_nil]
      rfl

theorem min_s (F : Fine k K O N nx ou) (f : Nat → Nat → Bool) (K0 : Int → Int → Int → Int → Int → (List Int) → (List Int) → Option R) (V : Option R)
    (hV : l_tutorref04_Canon k K O ((repsL f N.toNat).length : Int) (pickN K nx (repsL f N.toNat) (clsF f N.toNat).1) (pickO k K ou (repsL f N.toNat)) K0 = V) : ∀ (d s : Nat), s + d = N.toNat →
    Reach (fun m => (run_tutorref05_Minimise K0 m).1 s k K O N nx ou 0 0 0 0 [] [] (clsF f N.toNat).1 k K O ((repsL f s).length : Int) (pickN K nx (repsL f s) (clsF f N.toNat).1) (pickO k K ou (repsL f s))) V := by
  have hN := F.fN
  have hK := F.fK
  have hcl := clsF_len f N.toNat
  intro d
  induction d with
  | zero =>
    intro s hs
    have e : s = N.toNat := by omega
    subst e
    refine .now fun m => ?_
    rw [show (run_tutorref05_Minimise K0 (m + 1)).1 = s_tutorref05_Minimise_6 (run_tutorref05_Minimise K0 m).1 (run_tutorref05_Minimise K0 m).2 K0 from rfl]
    unfold s_tutorref05_Minimise_6
    rw [br_neg (by omega)]
    exact hV
  | succ d ih =>
    intro s hs
    have ih' := ih (s + 1) (by omega)
    have hfirst := clsF_first f (s := s) (n := N.toNat) (by omega)
    have hlen := repsL_len f s
    have hle := (clsF_in f s).1
    cases hf : findP (fun t => !f s t) (List.range s) with
    | none =>
      have hc := hfirst.1.1 hf
      have e : repsL f (s + 1) = repsL f s ++ [(s : Int)] := by simp only [repsL]; rw [if_pos hf]
      rw [e, pickN_snoc, pickO_snoc F.fk, List.length_append, List.length_singleton] at ih'
      have hb : (repsL f s).length ≤ 1024 := by omega
      have h1 := pickN_most (nx := nx) (place := (clsF f N.toNat).1) (K := K) (by omega) hb
      have h2 := pickO_most (k := k) (ou := ou) (K := K) (by omega) hb
      have := min_x F (place := (clsF f N.toNat).1) (by omega) K0 (s := s) (by omega) (by omega) (by omega) ih' K.toNat 0 (by omega)
      refine .step (fun m => ?_) this
      rw [show (run_tutorref05_Minimise K0 (m + 1)).1 = s_tutorref05_Minimise_6 (run_tutorref05_Minimise K0 m).1 (run_tutorref05_Minimise K0 m).2 K0 from rfl]
      unfold s_tutorref05_Minimise_6
      have e1 : rowN K nx (clsF f N.toNat).1 s 0 = [] := rfl
      have e2 : rowO k K ou s 0 = [] := by unfold rowO; split <;> rfl
      rw [br_pos (by omega), br_pos (by omega), Int.toNat_natCast, br_ne' (by omega), wr _ (by omega) (by omega), e1, e2, List.append_nil, List.append_nil]
      rfl
    | some t =>
      have hc : (clsF f N.toNat).1.getD s 0 ≠ (clsF f s).2 := fun h => by
        have := hfirst.1.2 h
        rw [hf] at this
        cases this
      have e : repsL f (s + 1) = repsL f s := by simp only [repsL]; rw [if_neg (by rw [hf]; simp)]
      rw [e] at ih'
      refine .step (fun m => ?_) ih'
      rw [show (run_tutorref05_Minimise K0 (m + 1)).1 = s_tutorref05_Minimise_6 (run_tutorref05_Minimise K0 m).1 (run_tutorref05_Minimise K0 m).2 K0 from rfl]
      unfold s_tutorref05_Minimise_6
      rw [br_pos (by omega), br_pos (by omega), Int.toNat_natCast, br_ne (by omega), wr _ (by omega) (by omega)]
      rfl
end

theorem ok_tutorref05_Minimise {R : Type} (m : Int) (m_1 : Int) (m_2 : Int) (m_3 : Int) (m_4 : List Int) (m_5 : List Int) (K0 : Int → Int → Int → Int → Int → (List Int) → (List Int) → Option R) {r : R} (h : l_tutorref05_Minimise m m_1 m_2 m_3 m_4 m_5 K0 = some r) : ∃ fuel, e_tutorref05_Minimise (run_tutorref05_Minimise K0 fuel).1 (run_tutorref05_Minimise K0 fuel).2 K0 m m_1 m_2 m_3 m_4 m_5 = some r := by
  unfold l_tutorref05_Minimise at h
  rcases bi_some h with ⟨hs, h'⟩ | ⟨_, h'⟩
  · have hs := of_decide_eq_true hs
    rw [← h']
    unfold e_tutorref05_Minimise
    simp only [cls_eq hs.1 hs.2]
    unfold classesS minimS
    by_cases c1 : (checkR m m_1 m_2 m_3 m_4 m_5).2 = 0
    · have F := checkR_fine.1 c1
      have hN := F.fN
      have hK := F.fK
      have hb : (repsL (apartF m m_1 m_3 m_4 m_5) m_3.toNat).length ≤ 1024 := by
        have h1 := repsL_len (apartF m m_1 m_3 m_4 m_5) m_3.toNat
        have h2 := (clsF_in (apartF m m_1 m_3 m_4 m_5) m_3.toNat).1
        omega
      have h1 := pickN_most (nx := m_4) (place := (clsF (apartF m m_1 m_3 m_4 m_5) m_3.toNat).1) (K := m_1) (by omega) hb
      have h2 := pickO_most (k := m) (ou := m_5) (K := m_1) (by omega) hb
      obtain ⟨n, hn⟩ := (min_s F (apartF m m_1 m_3 m_4 m_5) K0 _ (canon_eq (by unfold short; omega) (by unfold short; omega) K0) m_3.toNat 0 (by omega)).get
      refine ⟨n, ?_⟩
      rw [if_neg (by simpa using c1), if_neg (by simpa using c1)]
      try dsimp only
      rw [br_ne' rfl]
      have e : pickO m m_1 m_5 (repsL (apartF m m_1 m_3 m_4 m_5) 0) = [] := by unfold pickO; split <;> rfl
      rw [e] at hn
      exact hn
    · refine ⟨0, ?_⟩
      rw [if_pos (by simpa using c1), if_pos (by simpa using c1)]
      try dsimp only
      rw [br_ne c1]
  · cases h'
theorem minim_eq {R : Type} {k K O N : Int} {nx ou : List Int} (h1 : short nx) (h2 : short ou) (K0 : Int → Int → Int → Int → Int → (List Int) → (List Int) → Option R) :
    l_tutorref05_Minimise k K O N nx ou K0 = K0 (minimS k K O N nx ou).1 (minimS k K O N nx ou).2.1 (minimS k K O N nx ou).2.2.1 (minimS k K O N nx ou).2.2.2.1 (minimS k K O N nx ou).2.2.2.2.1 (minimS k K O N nx ou).2.2.2.2.2.1 (minimS k K O N nx ou).2.2.2.2.2.2 := by
  unfold l_tutorref05_Minimise
  rw [br_pos ⟨h1, h2⟩]

/-! ### What is said by the least machine -/

section
variable {f : Nat → Nat → Bool} {n : Nat}

theorem findP_true {p : Nat → Bool} {s t : Nat} (h : findP p (List.range s) = some t) : t < s ∧ p t = true := by
  have key : ∀ (l : List Nat) (i : Nat), findP p l = some i → p (l.getD i 0) = true := by
    intro l
    induction l with
    | nil => intro i h; cases h
    | cons a l ih =>
      intro i h
      simp only [findP] at h
      split at h
      · rename_i ha
        cases h
        exact ha
      · cases hf : findP p l with
        | none => rw [hf] at h; cases h
        | some j =>
          rw [hf] at h
          cases h
          exact ih j hf
  have h1 := findP_lt h
  rw [List.length_range] at h1
  refine ⟨h1, ?_⟩
  have h2 := key _ _ h
  rwa [getD_of 0 (by simpa using h1), List.getElem_range] at h2

/-- The first of its class is alike. -/
theorem cls_rep (hr : ∀ s, s < n → f s s = false) (hy : ∀ a b, a < n → b < n → f a b = false → f b a = false) (ht : ∀ a b c, a < n → b < n → c < n → f a b = false → f b c = false → f a c = false) : ∀ (m : Nat), m ≤ n → ∀ s, s < m →
    f ((repsL f m).getD ((clsF f m).1.getD s 0).toNat 0).toNat s = false
  | 0, _, s, hs => absurd hs (by omega)
  | m + 1, hm, s, hs => by
    have hl := clsF_len f m
    have hin := clsF_in f m
    have hrl := repsL_len f m
    cases hf : findP (fun t => !f m t) (List.range m) with
    | none =>
      have e : repsL f (m + 1) = repsL f m ++ [(m : Int)] := by simp only [repsL]; rw [if_pos hf]
      have e2 : (clsF f (m + 1)).1 = (clsF f m).1 ++ [(clsF f m).2] := by simp only [clsF, hf]
      rw [e, e2]
      by_cases c : s < m
      · have g : ((clsF f m).1 ++ [(clsF f m).2]).getD s 0 = (clsF f m).1.getD s 0 := by rw [getD_snoc, if_pos (by omega)]
        have hc := hin.2 _ (getD_mem (l := (clsF f m).1) (i := s) (d := 0) (by omega))
        rw [g, getD_snoc, if_pos (by omega)]
        exact cls_rep hr hy ht m (by omega) s c
      · have : s = m := by omega
        subst this
        have g : ((clsF f s).1 ++ [(clsF f s).2]).getD s 0 = (clsF f s).2 := by rw [getD_snoc, if_neg (by omega), if_pos (by omega)]
        rw [g, getD_snoc, if_neg (by omega), if_pos (by omega), Int.toNat_natCast]
        exact hr s (by omega)
    | some t =>
      obtain ⟨htm, htf⟩ := findP_true hf
      have htf : f m t = false := by simpa using htf
      have e : repsL f (m + 1) = repsL f m := by simp only [repsL]; rw [if_neg (by rw [hf]; simp)]
      have e2 : (clsF f (m + 1)).1 = (clsF f m).1 ++ [(clsF f m).1.getD t 0] := by simp only [clsF, hf]
      rw [e, e2, getD_snoc, hl]
      by_cases c : s < m
      · rw [if_pos c]
        exact cls_rep hr hy ht m (by omega) s c
      · have : s = m := by omega
        subst this
        rw [if_neg (by omega), if_pos rfl]
        have ih := cls_rep hr hy ht s (by omega) t htm
        have hc := hin.2 _ (getD_mem (l := (clsF f s).1) (i := t) (d := 0) (by omega))
        have hri := repsL_in f s _ (getD_mem (l := repsL f s) (i := ((clsF f s).1.getD t 0).toNat) (d := 0) (by omega))
        exact ht _ t s (by omega) (by omega) (by omega) ih (hy s t (by omega) (by omega) htf)

/-- Two firsts are apart. -/
theorem reps_apart : ∀ m : Nat, (repsL f m).Pairwise fun a b => f b.toNat a.toNat = true
  | 0 => List.Pairwise.nil
  | m + 1 => by
    simp only [repsL]
    split
    · rename_i hf
      rw [List.pairwise_append]
      refine ⟨reps_apart m, by simp, fun a ha b hb => ?_⟩
      rw [List.mem_singleton] at hb
      subst hb
      have h1 := repsL_in f m a ha
      have := findP_none.1 hf a.toNat (List.mem_range.2 (by omega))
      rw [Int.toNat_natCast]
      simpa using this
    · exact reps_apart m

theorem cls_apart (hr : ∀ s, s < n → f s s = false) (hy : ∀ a b, a < n → b < n → f a b = false → f b a = false) (ht : ∀ a b c, a < n → b < n → c < n → f a b = false → f b c = false → f a c = false) {s t : Nat} (hs : s < n) (htn : t < n) :
    ((clsF f n).1.getD s 0 != (clsF f n).1.getD t 0) = f s t := by
  have hl := clsF_len f n
  have hin := clsF_in f n
  have hrl := repsL_len f n
  have r1 := cls_rep hr hy ht n (Nat.le_refl n) s hs
  have r2 := cls_rep hr hy ht n (Nat.le_refl n) t htn
  have c1 := hin.2 _ (getD_mem (l := (clsF f n).1) (i := s) (d := 0) (by omega))
  have c2 := hin.2 _ (getD_mem (l := (clsF f n).1) (i := t) (d := 0) (by omega))
  generalize (clsF f n).1.getD s 0 = a at *
  generalize (clsF f n).1.getD t 0 = b at *
  have i1 := repsL_in f n _ (getD_mem (l := repsL f n) (i := a.toNat) (d := 0) (by omega))
  have i2 := repsL_in f n _ (getD_mem (l := repsL f n) (i := b.toNat) (d := 0) (by omega))
  by_cases c : a = b
  · subst c
    rw [show (a != a) = false by simp]
    exact (ht s _ t hs (by omega) htn (hy _ _ (by omega) hs r1) r2).symm
  · rw [show (a != b) = true by simpa using c]
    cases hf : f s t with
    | true => rfl
    | false =>
      have h1 := ht _ s t (by omega) hs htn r1 hf
      have h2 := ht _ t _ (by omega) htn (by omega) h1 (hy _ _ (by omega) htn r2)
      have hp := List.pairwise_iff_getElem.1 (reps_apart (f := f) n)
      exfalso
      rcases Int.lt_or_gt_of_ne c with g | g
      · have := hp a.toNat b.toNat (by omega) (by omega) (by omega)
        rw [← getD_of 0, ← getD_of 0] at this
        rw [hy _ _ (by omega) (by omega) h2] at this
        cases this
      · have := hp b.toNat a.toNat (by omega) (by omega) (by omega)
        rw [← getD_of 0, ← getD_of 0] at this
        rw [h2] at this
        cases this
end

abbrev LT_tutorref08_Same := {R : Type} → (List Int) → (List Int) → (Bool → Option R) → Option R
/-- tutor/tutorref08.Same -/
def l_tutorref08_Same {R : Type} (a b : List Int) (K0 : Bool → Option R) : Option R :=
  K0 ((ofBts a).toList == (ofBts b).toList)

theorem sameB_eq {R : Type} (a : List Int) (K0 : Bool → Option R) : l_tutorref08_Same a a K0 = K0 true := by
  unfold l_tutorref08_Same
  rw [beq_self_eq_true]


abbrev LT_tutorlaw08_TextOne := {R : Type} → Int → Int → Int → Int → (List Int) → (List Int) → Int → Int → Int → Int → (List Int) → (List Int) → (Bool → Option R) → Option R
/-- tutor/tutorlaw08.TextOne -/
def l_tutorlaw08_TextOne {R : Type} (a a_1 a_2 a_3 : Int) (a_4 a_5 : List Int) (b b_1 b_2 b_3 : Int) (b_4 b_5 : List Int) (K0 : Bool → Option R) : Option R :=
  l_tutorref03_Big a a_1 a_2 a_3 a_4 a_5 30
   (fun r1 =>
    bi r1
     (l_tutorlaw08_live
      (fun r2 =>
       K0 r2))
     (l_tutorref03_Big b b_1 b_2 b_3 b_4 b_5 30
      (fun r3 =>
       bi r3
        (l_tutorlaw08_live
         (fun r4 =>
          K0 r4))
        (l_tutorref07_Separate a a_1 a_2 a_3 a_4 a_5 b b_1 b_2 b_3 b_4 b_5
         (fun r5 r6 r7 =>
          bi (r6 != 0)
           (l_tutorlaw08_live
            (fun r8 =>
             K0 r8))
           (l_tutorref05_Minimise a a_1 a_2 a_3 a_4 a_5
            (fun r9 r10 r11 r12 r13 r14 r15 =>
             l_tutorref05_Minimise b b_1 b_2 b_3 b_4 b_5
              (fun r16 r17 r18 r19 r20 r21 r22 =>
               l_text_Export r9 r10 r11 r12 r14 r15
                (fun r23 r24 =>
                 l_text_Export r16 r17 r18 r19 r21 r22
                  (fun r25 r26 =>
                   l_tutorlaw08_num r23
                    (fun r27 =>
                     l_tutorlaw08_num r25
                      (fun r28 =>
                       bi ((IntKind.i64.wrap (r27 + r28)) == 0)
                        (l_tutorref08_Same r24 r26
                         (fun r29 =>
                          bi (r29 == (!r5))
                           (l_tutorlaw08_live
                            (fun r30 =>
                             K0 r30))
                           (K0 false)))
                        (K0 false)))))))))))))

section
variable {k K O N M : Int} {nx ou nx' ou' : List Int}

theorem apartF_false (F : Fine k K O N nx ou) {s t : Nat} (hs : s < N.toNat) (ht : t < N.toNat) : apartF k K N nx ou s t = false ↔ ∀ v, validW K v → (endS k K nx ou (s : Int) v).2 = (endS k K nx ou (t : Int) v).2 := by
  have h := apartF_iff F hs ht
  constructor
  · intro hf v hv
    refine (end_tel (D := selfD k K N nx ou) F.fk ((s : Int), (t : Int)) v).2 ?_
    cases hb : (selfD k K N nx ou).tel ((s : Int), (t : Int)) v with
    | false => rfl
    | true =>
      rw [h.2 ⟨v, hv, hb⟩] at hf
      cases hf
  · intro hv
    cases hb : apartF k K N nx ou s t with
    | false => rfl
    | true =>
      obtain ⟨v, hvv, ht⟩ := h.1 hb
      have := (end_tel (D := selfD k K N nx ou) F.fk ((s : Int), (t : Int)) v).1 (hv v hvv)
      rw [this] at ht
      cases ht

theorem reps_zero (f : Nat → Nat → Bool) : ∀ m : Nat, 0 < (repsL f (m + 1)).length ∧ (repsL f (m + 1)).getD 0 0 = 0
  | 0 => ⟨Nat.zero_lt_one, rfl⟩
  | m + 1 => by
    obtain ⟨h1, h2⟩ := reps_zero f m
    have e : repsL f (m + 1 + 1) = if findP (fun t => !f (m + 1) t) (List.range (m + 1)) = none then repsL f (m + 1) ++ [((m + 1 : Nat) : Int)] else repsL f (m + 1) := rfl
    rw [e]
    split
    · refine ⟨by rw [List.length_append]; omega, ?_⟩
      rw [getD_snoc, if_pos h1, h2]
    · exact ⟨h1, h2⟩

theorem min_equiv (F : Fine k K O N nx ou) : (∀ s, s < N.toNat → apartF k K N nx ou s s = false) ∧ (∀ a b, a < N.toNat → b < N.toNat → apartF k K N nx ou a b = false → apartF k K N nx ou b a = false) ∧
    (∀ a b c, a < N.toNat → b < N.toNat → c < N.toNat → apartF k K N nx ou a b = false → apartF k K N nx ou b c = false → apartF k K N nx ou a c = false) :=
  ⟨fun s hs => (apartF_false F hs hs).2 fun _ _ => rfl, fun a b ha hb h => (apartF_false F hb ha).2 fun v hv => ((apartF_false F ha hb).1 h v hv).symm,
    fun a b c ha hb hc h1 h2 => (apartF_false F ha hc).2 fun v hv => ((apartF_false F ha hb).1 h1 v hv).trans ((apartF_false F hb hc).1 h2 v hv)⟩

theorem min_picks (F : Fine k K O N nx ou) : Picks k K N nx ou (repsL (apartF k K N nx ou) N.toNat) (clsF (apartF k K N nx ou) N.toNat).1 := by
  have hN := F.fN
  obtain ⟨e1, e2, e3⟩ := min_equiv F
  have hrl := repsL_len (apartF k K N nx ou) N.toNat
  have hcl := clsF_in (apartF k K N nx ou) N.toNat
  have hll := clsF_len (apartF k K N nx ou) N.toNat
  have hri := repsL_in (apartF k K N nx ou) N.toNat
  have hz := reps_zero (apartF k K N nx ou) (N.toNat - 1)
  rw [show N.toNat - 1 + 1 = N.toNat by omega] at hz
  refine ⟨fun s hs => by have := hri s hs; omega, hz.1, by omega, fun i x hi hx => ?_⟩
  have hs := hri _ (getD_mem (d := 0) hi)
  generalize (repsL (apartF k K N nx ou) N.toNat).getD i 0 = s at *
  have hsn : ((s.toNat : Nat) : Int) = s := Int.toNat_of_nonneg hs.1
  obtain ⟨n1, n2⟩ := nxt_nat F (s := s.toNat) (x := x) (by omega) hx
  rw [hsn] at n1 n2
  generalize nx.getD (s * K + x).toNat 0 = t at *
  have hc := hcl.2 _ (getD_mem (l := (clsF (apartF k K N nx ou) N.toNat).1) (i := t.toNat) (d := 0) (by omega))
  refine ⟨hc.1, by omega, fun v hv => ?_⟩
  have hrep := cls_rep e1 e2 e3 N.toNat (Nat.le_refl _) t.toNat n2
  generalize (clsF (apartF k K N nx ou) N.toNat).1.getD t.toNat 0 = c at *
  have hrc := hri _ (getD_mem (l := repsL (apartF k K N nx ou) N.toNat) (i := c.toNat) (d := 0) (by omega))
  have h := (apartF_false F (by omega) n2).1 hrep v hv
  rw [n1, Int.toNat_of_nonneg hrc.1] at h
  exact h.symm

/-- No two states of it are alike. -/
def Least (k K N : Int) (nx ou : List Int) : Prop := ∀ s t : Int, (0 ≤ s ∧ s < N) → (0 ≤ t ∧ t < N) → (∀ v, validW K v → (endS k K nx ou s v).2 = (endS k K nx ou t v).2) → s = t

theorem min_least (F : Fine k K O N nx ou) : Least k K ((repsL (apartF k K N nx ou) N.toNat).length : Int) (pickN K nx (repsL (apartF k K N nx ou) N.toNat) (clsF (apartF k K N nx ou) N.toNat).1) (pickO k K ou (repsL (apartF k K N nx ou) N.toNat)) := by
  intro s t hs ht h
  have P := min_picks F
  have hri := repsL_in (apartF k K N nx ou) N.toNat
  have hsn : ((s.toNat : Nat) : Int) = s := Int.toNat_of_nonneg hs.1
  have htn : ((t.toNat : Nat) : Int) = t := Int.toNat_of_nonneg ht.1
  have r1 := hri _ (getD_mem (l := repsL (apartF k K N nx ou) N.toNat) (i := s.toNat) (d := 0) (by omega))
  have r2 := hri _ (getD_mem (l := repsL (apartF k K N nx ou) N.toNat) (i := t.toNat) (d := 0) (by omega))
  have hsame : ∀ v, validW K v → (endS k K nx ou ((repsL (apartF k K N nx ou) N.toNat).getD s.toNat 0) v).2 = (endS k K nx ou ((repsL (apartF k K N nx ou) N.toNat).getD t.toNat 0) v).2 := fun v hv => by
    rw [pick_same F P v s.toNat (by omega) hv, pick_same F P v t.toNat (by omega) hv, hsn, htn]
    exact h v hv
  have hp := List.pairwise_iff_getElem.1 (reps_apart (f := apartF k K N nx ou) N.toNat)
  have ap : ∀ i j : Nat, (hi : i < (repsL (apartF k K N nx ou) N.toNat).length) → (hj : j < (repsL (apartF k K N nx ou) N.toNat).length) → (∀ v, validW K v → (endS k K nx ou ((repsL (apartF k K N nx ou) N.toNat).getD i 0) v).2 = (endS k K nx ou ((repsL (apartF k K N nx ou) N.toNat).getD j 0) v).2) → ¬ i < j := by
    intro i j hi hj hv hij
    have h1 := hp i j hi hj hij
    rw [← getD_of 0 hi, ← getD_of 0 hj] at h1
    have q1 := hri _ (getD_mem (d := 0) hi)
    have q2 := hri _ (getD_mem (d := 0) hj)
    have := (apartF_false F (s := ((repsL (apartF k K N nx ou) N.toNat).getD j 0).toNat) (t := ((repsL (apartF k K N nx ou) N.toNat).getD i 0).toNat) (by omega) (by omega)).2 fun v hvv => by
      rw [Int.toNat_of_nonneg q1.1, Int.toNat_of_nonneg q2.1]
      exact (hv v hvv).symm
    rw [this] at h1
    cases h1
  have a1 := ap s.toNat t.toNat (by omega) (by omega) hsame
  have a2 := ap t.toNat s.toNat (by omega) (by omega) fun v hv => (hsame v hv).symm
  omega

theorem map_getD1 (L : List PW) {i : Nat} (hi : i < L.length) : (L.map (·.1.1)).getD i 0 = (L.getD i pw0).1.1 := by
  rw [getD_of 0 (by simpa using hi), getD_of pw0 hi, List.getElem_map]

theorem canon_picks (F : Fine k K O N nx ou) : Picks k K N nx ou ((reachL k K N nx ou).map (·.1.1)) (placeS ((reachL k K N nx ou).map (·.1.1)) (reachL k K N nx ou).length (List.replicate N.toNat 0)) := by
  have hN := F.fN
  have G := reach_grown F
  obtain ⟨h1, h2, h3, h4⟩ := reach_states F
  have hl : ((reachL k K N nx ou).map (·.1.1)).length = (reachL k K N nx ou).length := List.length_map _
  refine ⟨h1, by rw [hl]; exact G.inv.pos, by rw [hl]; exact h3, fun i x hi hx => ?_⟩
  rw [hl] at hi
  obtain ⟨m, hm, he⟩ := G.shut i x hi ⟨by omega, hx⟩
  rw [map_getD1 _ hi]
  have hst : nx.getD (((reachL k K N nx ou).getD i pw0).1.1 * K + x).toNat 0 = ((reachL k K N nx ou).map (·.1.1)).getD m 0 := by
    rw [map_getD1 _ hm, he]
    rfl
  rw [hst]
  have hg := placeS_get h1 h2 (acc := List.replicate N.toNat 0) (by rw [List.length_replicate]; omega) (reachL k K N nx ou).length m (by rw [hl]; exact Nat.le_refl _) hm
  rw [hg, Int.toNat_natCast]
  exact ⟨by omega, by rw [hl]; omega, fun v _ => rfl⟩

theorem reach_zero (F : Fine k K O N nx ou) : ((reachL k K N nx ou).map (·.1.1)).getD 0 0 = 0 := by
  have G := reach_grown F
  rw [map_getD1 _ G.inv.pos, G.inv.head]

theorem canon_form (F : Fine k K O N nx ou) : ∃ n p q, canonS k K O N nx ou = (k, K, O, n, 0, p, q) ∧ Fine k K O n p q ∧ ∀ v, validW K v → (endS k K nx ou 0 v).2 = (endS k K p q 0 v).2 := by
  have P := canon_picks F
  have hl : ((reachL k K N nx ou).map (·.1.1)).length = (reachL k K N nx ou).length := List.length_map _
  refine ⟨_, _, _, by unfold canonS; rw [if_neg (by simpa using checkR_fine.2 F)], ?_, fun v hv => ?_⟩
  · have := pick_fine F P
    rw [hl] at this
    exact this
  · have := pick_same F P v 0 P.pos hv
    rw [reach_zero F] at this
    exact this

theorem minim_form (F : Fine k K O N nx ou) : ∃ n p q, minimS k K O N nx ou = (k, K, O, n, 0, p, q) ∧ Fine k K O n p q ∧ ∀ v, validW K v → (endS k K nx ou 0 v).2 = (endS k K p q 0 v).2 := by
  have P := min_picks F
  have hN := F.fN
  have hz := reps_zero (apartF k K N nx ou) (N.toNat - 1)
  rw [show N.toNat - 1 + 1 = N.toNat by omega] at hz
  obtain ⟨n, p, q, e, Fc, hs⟩ := canon_form (pick_fine F P)
  refine ⟨n, p, q, by unfold minimS; rw [if_neg (by simpa using checkR_fine.2 F)]; exact e, Fc, fun v hv => ?_⟩
  have := pick_same F P v 0 P.pos hv
  rw [hz.2] at this
  exact this.trans (hs v hv)

/-- Quiet pairs say the same. -/
theorem quiet_says {D : Duo} (hk : D.k = 1 ∨ D.k = 2) {p : Int × Int} (Q : Quiet D p) : ∀ v, validW D.K v → (endS D.k D.K D.nx D.ou p.1 v).2 = (endS D.k D.K D.nx' D.ou' p.2 v).2 := fun v hv => (end_tel hk p v).2 (Q v hv)

theorem lock_one {D E : Duo} (FD : D.Fine) (hk : D.k = 1 ∨ D.k = 2) (hK : D.K = E.K) (g : PW → PW) (hg : ∀ e x, g (D.nxt e.1 x, e.2 ++ [x]) = (E.nxt (g e).1 x, (g e).2 ++ [x]))
    (hinj : ∀ e e' : PW, D.inn e.1 → D.inn e'.1 → Quiet D e.1 → Quiet D e'.1 → (g e).1 = (g e').1 → e.1 = e'.1) (hg1 : ∀ e e' : PW, e.1 = e'.1 → (g e).1 = (g e').1) (hs : D.inn (0, 0)) (Q : Quiet D (0, 0)) {L' : List PW} {n : Nat} (hE : grow E n 0 0 [g ((0, 0), [])] = some L') : L' = (growS D (0, 0)).map g := by
  have h := growS_run FD hs Q
  have := grow_lock hK g hg (fun L => ∀ e ∈ L, D.inn e.1 ∧ Quiet D e.1) (fun L i x hL hi hx => by
    have he := hL _ (getD_mem (l := L) (i := i) (d := pw0) hi)
    have hq := nxt_inn FD he.1 (x := (x : Int)) ⟨by omega, hx⟩
    have Qq := (he.2.sy (x := (x : Int)) ⟨by omega, hx⟩).2
    have hgn : (g (D.nxt (L.getD i pw0).1 x, (L.getD i pw0).2 ++ [(x : Int)])).1 = E.nxt (g (L.getD i pw0)).1 x := by rw [hg]
    refine ⟨?_, fun _ e hm => ?_⟩
    · rw [Bool.eq_iff_iff, known_iff, known_iff, List.mem_map, List.mem_map]
      constructor
      · rintro ⟨e, hm, h1⟩
        obtain ⟨e0, hm0, rfl⟩ := List.mem_map.1 hm
        have := hinj e0 (D.nxt (L.getD i pw0).1 x, (L.getD i pw0).2 ++ [(x : Int)]) (hL e0 hm0).1 hq (hL e0 hm0).2 Qq (h1.trans hgn.symm)
        exact ⟨e0, hm0, this⟩
      · rintro ⟨e0, hm0, h1⟩
        refine ⟨g e0, List.mem_map_of_mem hm0, ?_⟩
        rw [← hgn]
        exact hg1 e0 (D.nxt (L.getD i pw0).1 x, (L.getD i pw0).2 ++ [(x : Int)]) h1
    · rcases List.mem_append.1 hm with hm | hm
      · exact hL e hm
      · rw [List.mem_singleton] at hm
        subst hm
        exact ⟨hq, Qq⟩) _ 0 0 _ _ (fun e hm => by
    rw [List.mem_singleton] at hm
    subst hm
    exact ⟨hs, Q⟩) (by simp) h
  exact grow_one hE this

theorem canon_lock (A : Fine k K O N nx ou) (B : Fine k K O M nx' ou') (Q : Quiet ⟨k, K, N, M, nx, ou, nx', ou'⟩ (0, 0)) (la : Least k K N nx ou) (lb : Least k K M nx' ou') : canonS k K O N nx ou = canonS k K O M nx' ou' := by
  have hN := A.fN
  have hM := B.fN
  have FD : (⟨k, K, N, M, nx, ou, nx', ou'⟩ : Duo).Fine := ⟨⟨_, A⟩, ⟨_, B⟩⟩
  have hin : (⟨k, K, N, M, nx, ou, nx', ou'⟩ : Duo).inn (0, 0) := ⟨by dsimp only; omega, by dsimp only; omega⟩
  have G := growS_spec FD hin Q
  have hA : (selfD k K N nx ou).inn (0, 0) := ⟨⟨Int.le_refl 0, by show (0 : Int) < N; omega⟩, ⟨Int.le_refl 0, by show (0 : Int) < N; omega⟩⟩
  have hB : (selfD k K M nx' ou').inn (0, 0) := ⟨⟨Int.le_refl 0, by show (0 : Int) < M; omega⟩, ⟨Int.le_refl 0, by show (0 : Int) < M; omega⟩⟩
  have r1 : reachL k K N nx ou = (growS ⟨k, K, N, M, nx, ou, nx', ou'⟩ (0, 0)).map fun e => ((e.1.1, e.1.1), e.2) :=
    lock_one (E := selfD k K N nx ou) FD A.fk rfl (fun e => ((e.1.1, e.1.1), e.2)) (fun e x => rfl) (fun e e' i1 i2 q1 q2 h => by
      have h1 : e.1.1 = e'.1.1 := congrArg (·.1) h
      refine Prod.ext h1 (lb _ _ i1.2 i2.2 fun v hv => ?_)
      rw [← quiet_says A.fk q1 v hv, ← quiet_says A.fk q2 v hv, h1]) (fun e e' h => by rw [h]) hin Q (growS_run (selfD_fine A) hA (self_quiet A 0))
  have r2 : reachL k K M nx' ou' = (growS ⟨k, K, N, M, nx, ou, nx', ou'⟩ (0, 0)).map fun e => ((e.1.2, e.1.2), e.2) :=
    lock_one (E := selfD k K M nx' ou') FD A.fk rfl (fun e => ((e.1.2, e.1.2), e.2)) (fun e x => rfl) (fun e e' i1 i2 q1 q2 h => by
      have h1 : e.1.2 = e'.1.2 := congrArg (·.1) h
      refine Prod.ext (la _ _ i1.1 i2.1 fun v hv => ?_) h1
      rw [quiet_says A.fk q1 v hv, quiet_says A.fk q2 v hv, h1]) (fun e e' h => by rw [h]) hin Q (growS_run (selfD_fine B) hB (self_quiet B 0))
  obtain ⟨a1, a2, a3, _⟩ := reach_states A
  obtain ⟨b1, b2, b3, _⟩ := reach_states B
  have hQ : ∀ e ∈ growS ⟨k, K, N, M, nx, ou, nx', ou'⟩ (0, 0), Quiet ⟨k, K, N, M, nx, ou, nx', ou'⟩ e.1 := fun e he => by
    rw [← G.go e he]
    exact Q.at (G.val e he)
  unfold canonS
  rw [if_neg (by simpa using checkR_fine.2 A), if_neg (by simpa using checkR_fine.2 B)]
  rw [r1] at a1 a2 a3 ⊢
  rw [r2] at b1 b2 b3 ⊢
  have sh := G.shut
  generalize growS ⟨k, K, N, M, nx, ou, nx', ou'⟩ (0, 0) = L at *
  have ea : (L.map fun e => ((e.1.1, e.1.1), e.2)).map (fun e : PW => e.1.1) = L.map fun e => e.1.1 := by rw [List.map_map]; rfl
  have eb : (L.map fun e => ((e.1.2, e.1.2), e.2)).map (fun e : PW => e.1.1) = L.map fun e => e.1.2 := by rw [List.map_map]; rfl
  rw [ea] at a1 a2 ⊢
  rw [eb] at b1 b2 ⊢
  rw [List.length_map] at a3 b3 ⊢
  rw [List.length_map]
  have la1 : (L.map fun e => e.1.1).length = L.length := List.length_map _
  have lb1 : (L.map fun e => e.1.2).length = L.length := List.length_map _
  have ga : ∀ i, i < L.length → (L.map fun e => e.1.1).getD i 0 = (L.getD i pw0).1.1 := fun i hi => map_getD1 L hi
  have gb : ∀ i, i < L.length → (L.map fun e => e.1.2).getD i 0 = (L.getD i pw0).1.2 := fun i hi => by
    rw [getD_of 0 (by simpa using hi), getD_of pw0 hi, List.getElem_map]
  have hK := A.fK
  have pN : pickN K nx (L.map fun e => e.1.1) (placeS (L.map fun e => e.1.1) L.length (List.replicate N.toNat 0)) = pickN K nx' (L.map fun e => e.1.2) (placeS (L.map fun e => e.1.2) L.length (List.replicate M.toNat 0)) := by
    unfold pickN
    refine flat_ext 0 0 (by rw [la1, lb1]) fun i hi => ?_
    rw [la1] at hi
    refine List.map_congr_left fun x hx => ?_
    have hx := List.mem_range.1 hx
    obtain ⟨m, hm, he⟩ := sh i (x : Int) hi ⟨by omega, by show (x : Int) < K; omega⟩
    have h1 : nx.getD ((L.getD i pw0).1.1 * K + x).toNat 0 = (L.map fun e => e.1.1).getD m 0 := by rw [ga m hm, he]; rfl
    have h2 : nx'.getD ((L.getD i pw0).1.2 * K + x).toNat 0 = (L.map fun e => e.1.2).getD m 0 := by rw [gb m hm, he]; rfl
    rw [ga i hi, gb i hi, h1, h2, placeS_get a1 a2 (by rw [List.length_replicate]; omega) L.length m (by rw [la1]; exact Nat.le_refl _) hm, placeS_get b1 b2 (by rw [List.length_replicate]; omega) L.length m (by rw [lb1]; exact Nat.le_refl _) hm]
  have pO : pickO k K ou (L.map fun e => e.1.1) = pickO k K ou' (L.map fun e => e.1.2) := by
    unfold pickO
    by_cases h : k = 1
    · rw [if_pos h, if_pos h, List.map_map, List.map_map]
      refine List.map_congr_left fun e he => ?_
      have := (hQ e he).st
      unfold Duo.st at this
      rw [h] at this
      simpa using this
    · rw [if_neg h, if_neg h]
      refine flat_ext 0 0 (by rw [la1, lb1]) fun i hi => ?_
      rw [la1] at hi
      refine List.map_congr_left fun x hx => ?_
      have hx := List.mem_range.1 hx
      rw [ga i hi, gb i hi]
      have := ((hQ _ (getD_mem (d := pw0) hi)).sy (x := (x : Int)) ⟨by omega, by show (x : Int) < K; omega⟩).1
      unfold Duo.sy at this
      rw [A.fk.resolve_left h] at this
      simpa using this
  rw [pN, pO]

/-- Machines that say the same have one least form. -/
theorem minim_iff (A : Fine k K O N nx ou) (B : Fine k K O M nx' ou') : minimS k K O N nx ou = minimS k K O M nx' ou' ↔ ∀ v, validW K v → (endS k K nx ou 0 v).2 = (endS k K nx' ou' 0 v).2 := by
  constructor
  · intro h v hv
    obtain ⟨n, p, q, e, _, h1⟩ := minim_form A
    obtain ⟨n', p', q', e', _, h2⟩ := minim_form B
    rw [e, e'] at h
    simp only [Prod.mk.injEq] at h
    obtain ⟨_, _, _, _, _, rfl, rfl⟩ := h
    rw [h1 v hv, h2 v hv]
  · intro h
    have PA := min_picks A
    have PB := min_picks B
    have hN := A.fN
    have hM := B.fN
    have za := reps_zero (apartF k K N nx ou) (N.toNat - 1)
    rw [show N.toNat - 1 + 1 = N.toNat by omega] at za
    have zb := reps_zero (apartF k K M nx' ou') (M.toNat - 1)
    rw [show M.toNat - 1 + 1 = M.toNat by omega] at zb
    unfold minimS
    rw [if_neg (by simpa using checkR_fine.2 A), if_neg (by simpa using checkR_fine.2 B)]
    refine canon_lock (pick_fine A PA) (pick_fine B PB) (fun v hv => ?_) (min_least A) (min_least B)
    refine (end_tel (D := ⟨k, K, _, _, _, _, _, _⟩) A.fk (0, 0) v).1 ?_
    have s1 := pick_same A PA v 0 PA.pos hv
    have s2 := pick_same B PB v 0 PB.pos hv
    rw [za.2] at s1
    rw [zb.2] at s2
    exact s1.symm.trans ((h v hv).trans s2)
end


theorem itoaI_isB (n : Int) : isB (itoaI n) := by
  intro x hx
  unfold itoaI at hx
  obtain ⟨c, _, rfl⟩ := List.mem_map.1 hx
  have := c.toNat_lt
  omega

theorem expCells_isB (k K : Int) (nx ou : List Int) (s : Nat) : ∀ x : Nat, isB (expCells k K nx ou s x)
  | 0 => isB_nil
  | x + 1 => by
    have hb : isB [behind K x] := isB_one (by unfold behind; split <;> omega)
    simp only [expCells]
    refine isB_app (expCells_isB k K nx ou s x) ?_
    unfold expCell
    split
    · exact isB_app (itoaI_isB _) hb
    · exact isB_app (isB_app (isB_app (itoaI_isB _) (isB_one (by omega))) (itoaI_isB _)) hb

theorem expRows_isB (k K : Int) (nx ou : List Int) : ∀ s : Nat, isB (expRows k K nx ou s)
  | 0 => isB_nil
  | s + 1 => by
    simp only [expRows]
    refine isB_app (isB_app (expRows_isB k K nx ou s) ?_) (expCells_isB k K nx ou s _)
    unfold expLead
    split
    · exact isB_app (itoaI_isB _) (isB_one (by omega))
    · exact isB_nil

theorem expS_isB (k K O N : Int) (nx ou : List Int) : isB (expS k K O N nx ou) := by
  unfold expS
  refine isB_app ?_ (expRows_isB k K nx ou _)
  have h1 : isB [100, 102, 97, 32] := by unfold isB; decide
  have h2 : isB [109, 101, 97, 108, 121, 32] := by unfold isB; decide
  have s1 : isB [32] := by unfold isB; decide
  have s2 : isB [10] := by unfold isB; decide
  unfold expHead
  split
  · exact isB_app (isB_app (isB_app (isB_app h1 (itoaI_isB _)) s1) (itoaI_isB _)) s2
  · exact isB_app (isB_app (isB_app (isB_app (isB_app (isB_app h2 (itoaI_isB _)) s1) (itoaI_isB _)) s1) (itoaI_isB _)) s2

theorem sameB_iff {R : Type} {a b : List Int} (h1 : isB a) (h2 : isB b) (K0 : Bool → Option R) : l_tutorref08_Same a b K0 = K0 (decide (a = b)) := by
  unfold l_tutorref08_Same
  congr 1
  by_cases h : a = b
  · subst h
    simp
  · rw [decide_eq_false h]
    refine beq_eq_false_iff_ne.2 fun e => h ?_
    rw [ByteArray.toList_eq, ByteArray.toList_eq, ofBts_list, ofBts_list] at e
    exact isB_inj h1 h2 e

theorem expS_inj {k K O N : Int} {nx ou : List Int} {k' K' O' N' : Int} {nx' ou' : List Int} (A : Fine k K O N nx ou) (B : Fine k' K' O' N' nx' ou') (h : expS k K O N nx ou = expS k' K' O' N' nx' ou') :
    (k, K, O, N, nx, ou) = (k', K', O', N', nx', ou') := by
  have a := read_back A []
  have b := read_back B []
  rw [if_pos rfl, List.append_nil] at a b
  rw [h, b] at a
  exact (Sum.inr.inj a).symm

theorem law_tutorlaw08_TextOne {R : Type} (k K O N : Int) (nx ou : List Int) (k' K' O' N' : Int) (nx' ou' : List Int) (K0 : Bool → Option R) (hk : inI k) (hK : inI K) (hO : inI O) (hN : inI N) (hn : okW nx) (ho : okW ou)
    (hk' : inI k') (hK' : inI K') (hO' : inI O') (hN' : inI N') (hn' : okW nx') (ho' : okW ou') :
    l_tutorlaw08_TextOne k K O N nx ou k' K' O' N' nx' ou' K0 = K0 true := by
  unfold l_tutorlaw08_TextOne
  rcases big_cases k K O N nx ou 30 _ with h | ⟨b1, h1, h2, h⟩
  · rw [h, br_tt, live08]
  rw [h, br_ff]
  rcases big_cases k' K' O' N' nx' ou' 30 _ with h | ⟨b2, h3, h4, h⟩
  · rw [h, br_tt, live08]
  rw [h, br_ff]
  have o1 : okL nx := hn.okL (by unfold short; omega)
  have o2 : okL ou := ho.okL (by unfold short; omega)
  have o3 : okL nx' := hn'.okL (by unfold short; omega)
  have o4 : okL ou' := ho'.okL (by unfold short; omega)
  rw [rsep_eq o1 o2 o3 o4]
  rcases sepS_fit2 (k := k) (K := K) (O := O) (N := N) (k' := k') (K' := K') (O' := O') (N' := N') o1 o2 o3 o4 with e | ⟨⟨A, B, rfl, rfl, rfl⟩, e⟩
  · rw [br_ne e, live08]
  · have hA := A.fN
    have hB := B.fN
    have FD : (⟨k, K, N, N', nx, ou, nx', ou'⟩ : Duo).Fine := ⟨⟨_, A⟩, ⟨_, B⟩⟩
    have hin : (⟨k, K, N, N', nx, ou, nx', ou'⟩ : Duo).inn (0, 0) := ⟨by dsimp only; omega, by dsimp only; omega⟩
    have hF := search_found FD hin
    have hmi := minim_iff A B
    obtain ⟨n1, p1, q1, m1, f1, _⟩ := minim_form A
    obtain ⟨n2, p2, q2, m2, f2, _⟩ := minim_form B
    rw [m1, m2] at hmi
    have fine_ok : ∀ {N : Int} {p q : List Int}, Fine k K O N p q → okL p ∧ okL q := by
      intro N p q F
      have fN := F.fN
      have fO := F.fO
      have fK := F.fK
      have h2 : N * K ≤ 65536 := by
        have := Int.mul_le_mul (a := N) (b := K) (c := 1024) (d := 64) (by omega) (by omega) (by omega) (by omega)
        omega
      have h3 := F.fnx
      refine ⟨⟨by unfold short; omega, fun x hx => by have := F.fnxs x hx; exact ⟨by omega, by omega⟩⟩, ⟨?_, fun x hx => by have := F.fous x hx; exact ⟨by omega, by omega⟩⟩⟩
      unfold short
      rcases F.fk with c | c
      · have := F.fou1 c; omega
      · have := F.fou2 c; omega
    obtain ⟨c1, c2⟩ := fine_ok f1
    obtain ⟨c3, c4⟩ := fine_ok f2
    rw [e, br_ne' rfl, minim_eq o1.1 o2.1]
    try dsimp only
    rw [minim_eq o3.1 o4.1]
    try dsimp only
    rw [m1, m2]
    try dsimp only
    rw [exp_eq c1 c2]
    try dsimp only
    rw [exp_eq c3 c4]
    try dsimp only [l_tutorlaw08_num]
    unfold exportS
    rw [if_neg (by simpa using checkR_fine.2 f1), if_neg (by simpa using checkR_fine.2 f2), br_eq (show IntKind.i64.wrap ((0 : Int) + 0) = 0 by decide), sameB_iff (expS_isB k K O n1 p1 q1) (expS_isB k K O n2 p2 q2)]
    try dsimp only
    have heq : (decide (expS k K O n1 p1 q1 = expS k K O n2 p2 q2) == !(searchS ⟨k, K, N, N', nx, ou, nx', ou'⟩ (0, 0)).1) = true := by
      cases hr : (searchS ⟨k, K, N, N', nx, ou, nx', ou'⟩ (0, 0)).1 with
      | true =>
        obtain ⟨hv, htl, _⟩ := hF.yes hr
        rw [decide_eq_false]
        · rfl
        · intro hx
          have hx := expS_inj f1 f2 hx
          simp only [Prod.mk.injEq, true_and] at hx
          obtain ⟨rfl, rfl, rfl⟩ := hx
          have := hmi.1 rfl _ hv
          have h2 := (end_tel (D := ⟨k, K, N, N', nx, ou, nx', ou'⟩) A.fk (0, 0) _).1 this
          rw [h2] at htl
          cases htl
      | false =>
        have hno := (hF.no hr).2
        have := hmi.2 fun v hv => (end_tel (D := ⟨k, K, N, N', nx, ou, nx', ou'⟩) A.fk (0, 0) v).2 (hno v hv)
        simp only [Prod.mk.injEq] at this
        obtain ⟨_, _, _, rfl, _, rfl, rfl⟩ := this
        rw [decide_eq_true rfl]
        rfl
    rw [heq, br_tt, live08]

end
end Go.Ev
