/- Functions of the program, as trees of tests over numbers and lists; no program in sight. -/
import Derived.Test.YtghgpadmkdfanaaDoorEvMach
import Derived.Test.YtghgpadmkdfanaaDoorEvNum
import Derived.Test.YtghgpadmkdfanaaDoorEvDot
import Derived.Test.YtghgpadmkdfanaaDoorEvDotA
namespace Go.Ev
noncomputable section
set_option linter.unusedVariables false
set_option linter.unusedSimpArgs false
set_option maxRecDepth 100000
set_option maxHeartbeats 4000000

abbrev LT_tutorref03_Big := {R : Type} → Int → Int → Int → Int → (List Int) → (List Int) → Int → (Bool → Option R) → Option R
/-- tutor/tutorref03.Big -/
def l_tutorref03_Big {R : Type} (m m_1 m_2 m_3 : Int) (m_4 m_5 : List Int) (states : Int) (K0 : Bool → Option R) : Option R :=
  bi (decide (m_3 > states))
   (K0 true)
   (bi (decide ((m_4.length : Int) > 70000))
    (K0 true)
    (K0 (decide ((m_5.length : Int) > 70000))))

theorem big_cases {R : Type} (k K O N : Int) (nx ou : List Int) (states : Int) (K0 : Bool → Option R) :
    (l_tutorref03_Big k K O N nx ou states K0 = K0 true) ∨ (N ≤ states ∧ nx.length ≤ 70000 ∧ ou.length ≤ 70000 ∧ l_tutorref03_Big k K O N nx ou states K0 = K0 false) := by
  unfold l_tutorref03_Big
  by_cases h1 : N > states
  · exact .inl (by rw [br_pos h1])
  rw [br_neg h1]
  by_cases h2 : (nx.length : Int) > 70000
  · exact .inl (by rw [br_pos h2])
  rw [br_neg h2]
  by_cases h3 : (ou.length : Int) > 70000
  · exact .inl (by rw [decide_eq_true h3])
  · exact .inr ⟨by omega, by omega, by omega, by rw [decide_eq_false h3]⟩
theorem big_f {R : Type} {k K O N : Int} {nx ou : List Int} {states : Int} (h : N ≤ states ∧ nx.length ≤ 70000 ∧ ou.length ≤ 70000) (K0 : Bool → Option R) : l_tutorref03_Big k K O N nx ou states K0 = K0 false := by
  unfold l_tutorref03_Big
  rw [br_neg (by omega), br_neg (by omega), decide_eq_false (by omega)]
theorem big_t {R : Type} {k K O N : Int} {nx ou : List Int} {states : Int} (h : ¬ (N ≤ states ∧ nx.length ≤ 70000 ∧ ou.length ≤ 70000)) (K0 : Bool → Option R) : l_tutorref03_Big k K O N nx ou states K0 = K0 true := by
  rcases big_cases k K O N nx ou states K0 with h' | ⟨a, b, c, _⟩
  · exact h'
  · exact absurd ⟨a, b, c⟩ h

abbrev LT_machine_says := {R : Type} → Int → Int → Int → Int → (List Int) → (List Int) → (Int → Option R) → Option R
/-- tutor/machine.says -/
def l_machine_says {R : Type} (m m_1 m_2 m_3 : Int) (m_4 m_5 : List Int) (K0 : Int → Option R) : Option R :=
  bi (m == 1)
   (K0 m_3)
   (K0 (IntKind.i64.wrap (m_3 * m_1)))

abbrev LT_machine_head := {R : Type} → Int → Int → Int → Int → (List Int) → (List Int) → (Int → Option R) → Option R
/-- tutor/machine.head -/
def l_machine_head {R : Type} (m m_1 m_2 m_3 : Int) (m_4 m_5 : List Int) (K0 : Int → Option R) : Option R :=
  bi (m != 1)
   (bi (m != 2)
    (K0 30)
    (bi (decide (m_1 < 1))
     (K0 1)
     (bi (decide (m_1 > 64))
      (K0 1)
      (bi (m == 1)
       (bi (m_2 != 2)
        (K0 33)
        (bi (decide (m_2 < 1))
         (K0 33)
         (bi (decide (m_2 > 64))
          (K0 33)
          (bi (decide (m_3 < 1))
           (K0 3)
           (bi (decide (m_3 > 1024))
            (K0 3)
            (bi ((m_4.length : Int) != (IntKind.i64.wrap (m_3 * m_1)))
             (K0 31)
             (l_machine_says m m_1 m_2 m_3 m_4 m_5
              (fun r1 =>
               bi ((m_5.length : Int) != r1)
                (K0 31)
                (K0 0)))))))))
       (bi (decide (m_2 < 1))
        (K0 33)
        (bi (decide (m_2 > 64))
         (K0 33)
         (bi (decide (m_3 < 1))
          (K0 3)
          (bi (decide (m_3 > 1024))
           (K0 3)
           (bi ((m_4.length : Int) != (IntKind.i64.wrap (m_3 * m_1)))
            (K0 31)
            (l_machine_says m m_1 m_2 m_3 m_4 m_5
             (fun r2 =>
              bi ((m_5.length : Int) != r2)
               (K0 31)
               (K0 0))))))))))))
   (bi (decide (m_1 < 1))
    (K0 1)
    (bi (decide (m_1 > 64))
     (K0 1)
     (bi (m == 1)
      (bi (m_2 != 2)
       (K0 33)
       (bi (decide (m_2 < 1))
        (K0 33)
        (bi (decide (m_2 > 64))
         (K0 33)
         (bi (decide (m_3 < 1))
          (K0 3)
          (bi (decide (m_3 > 1024))
           (K0 3)
           (bi ((m_4.length : Int) != (IntKind.i64.wrap (m_3 * m_1)))
            (K0 31)
            (l_machine_says m m_1 m_2 m_3 m_4 m_5
             (fun r3 =>
              bi ((m_5.length : Int) != r3)
               (K0 31)
               (K0 0)))))))))
      (bi (decide (m_2 < 1))
       (K0 33)
       (bi (decide (m_2 > 64))
        (K0 33)
        (bi (decide (m_3 < 1))
         (K0 3)
         (bi (decide (m_3 > 1024))
          (K0 3)
          (bi ((m_4.length : Int) != (IntKind.i64.wrap (m_3 * m_1)))
           (K0 31)
           (l_machine_says m m_1 m_2 m_3 m_4 m_5
            (fun r4 =>
             bi ((m_5.length : Int) != r4)
              (K0 31)
              (K0 0)))))))))))

theorem head_eq {R : Type} (k K O N : Int) (nx ou : List Int) (K0 : Int → Option R) : l_machine_head k K O N nx ou K0 = K0 (headS k K O N nx ou) := by
  unfold l_machine_head l_machine_says headS
  simp only [br_if, bne_iff_ne, beq_iff_eq, decide_eq_true_eq, ne_eq]
  by_cases hb : (1 ≤ N ∧ N ≤ 1024) ∧ 1 ≤ K ∧ K ≤ 64
  · have := mulK hb
    rw [wr (N * K) (by omega) (by omega)]
    repeat' (refine ite_l (fun _ => ?_) (fun _ => ?_))
    all_goals
      refine congrArg K0 ?_
      repeat' (refine ite_r (fun _ => ?_) (fun _ => ?_))
      all_goals omega
  · repeat' (refine ite_l (fun _ => ?_) (fun _ => ?_))
    all_goals
      refine congrArg K0 ?_
      repeat' (refine ite_r (fun _ => ?_) (fun _ => ?_))
      all_goals omega

abbrev LT_machine_beyond := {R : Type} → (List Int) → Int → (Int → Option R) → Option R
abbrev GT_machine_beyond_2 (R : Type) := (List Int) → Int → Int → Int → Option R
/-- tutor/machine.beyond -/
def s_machine_beyond_2 {R : Type} (g29_2 : GT_machine_beyond_2 R) (K0 : Int → Option R) (l : List Int) (n x7 x8 : Int) : Option R :=
  bi (decide (x8 < x7))
   (bi (decide (0 ≤ x8 ∧ x8 < ((l.length : Nat) : Int)))
    (bi (decide ((IntKind.u64.wrap (l.getD x8.toNat 0)) ≥ (IntKind.u64.wrap n)))
     (K0 x8)
     (g29_2 l n x7 (IntKind.i64.wrap (x8 + 1))))
    none)
   (K0 (-1))

/-- tutor/machine.beyond -/
def e_machine_beyond {R : Type} (g29_2 : GT_machine_beyond_2 R) (K0 : Int → Option R) (l : List Int) (n : Int) : Option R :=
  g29_2 l n (l.length : Int) 0

def run_machine_beyond {R : Type} (K0 : Int → Option R) : Nat → (List Int) → Int → Int → Int → Option R
  | 0 => fun _ _ _ _ => none
  | n + 1 => s_machine_beyond_2 (run_machine_beyond K0 n) K0

def l_machine_beyond {R : Type} (l : List Int) (n : Int) (K0 : Int → Option R) : Option R := bi (decide (short l)) (K0 (beyondS n l)) none

theorem ok_machine_beyond {R : Type} (l : List Int) (n : Int) (K0 : Int → Option R) {r : R} (h : l_machine_beyond l n K0 = some r) : ∃ fuel, e_machine_beyond (run_machine_beyond K0 fuel) K0 l n = some r := by
  unfold l_machine_beyond at h
  rcases bi_some h with ⟨hs, h⟩ | ⟨_, h⟩
  · have hs : l.length < 4611686018427387904 := of_decide_eq_true hs
    refine ⟨l.length + 1, ?_⟩
    rw [← h]
    have key := scan_all (F := fun m i => run_machine_beyond K0 m l n (l.length : Int) (i : Int)) (bad n) (l := l) (A := fun i => K0 i) (B := K0 (-1))
      (fun m => by
        show s_machine_beyond_2 _ _ _ _ _ _ = _
        unfold s_machine_beyond_2
        rw [br_neg (by omega)])
      (fun m i hi => by
        show s_machine_beyond_2 _ _ _ _ _ _ = _
        unfold s_machine_beyond_2
        rw [br_pos (by omega), br_pos (by omega), br_if, Int.toNat_natCast, getD_of 0 hi, wr _ (by omega) (by omega)]
        rfl)
    unfold e_machine_beyond beyondS
    refine key.trans ?_
    cases findP (bad n) l <;> rfl
  · cases h

abbrev LT_machine_Check := {R : Type} → Int → Int → Int → Int → (List Int) → (List Int) → (Int → Int → Option R) → Option R
/-- tutor/machine.Check -/
def l_machine_Check {R : Type} (m m_1 m_2 m_3 : Int) (m_4 m_5 : List Int) (K0 : Int → Int → Option R) : Option R :=
  l_machine_head m m_1 m_2 m_3 m_4 m_5
   (fun r1 =>
    bi (r1 != 0)
     (K0 0 r1)
     (l_machine_beyond m_4 m_3
      (fun r2 =>
       bi (decide (r2 ≥ 0))
        (K0 r2 32)
        (l_machine_beyond m_5 m_2
         (fun r3 =>
          bi (decide (r3 ≥ 0))
           (K0 r3 33)
           (K0 0 0))))))

theorem check_eq {R : Type} (k K O N : Int) (nx ou : List Int) (h1 : short nx) (h2 : short ou) (K0 : Int → Int → Option R) :
    l_machine_Check k K O N nx ou K0 = K0 (checkS k K O N nx ou).1 (checkS k K O N nx ou).2 := by
  unfold l_machine_Check checkS l_machine_beyond beyondS
  rw [head_eq]
  by_cases h : headS k K O N nx ou = 0
  · rw [br_ne' h, if_neg (by simpa using h), br_pos h1]
    cases hf : findP (bad N) nx with
    | some i => simp only [br_pos (show ((i : Nat) : Int) ≥ 0 by omega)]
    | none =>
      simp only [br_neg (show ¬ ((-1 : Int) ≥ 0) by omega), br_pos h2]
      cases hg : findP (bad O) ou with
      | some i => simp only [br_pos (show ((i : Nat) : Int) ≥ 0 by omega)]
      | none => simp only [br_neg (show ¬ ((-1 : Int) ≥ 0) by omega)]
  · rw [br_ne h, if_pos (by simpa using h)]

abbrev LT_unicode_utf8_ValidRune := {R : Type} → Int → (Bool → Option R) → Option R
/-- unicode/utf8.ValidRune -/
def l_unicode_utf8_ValidRune {R : Type} (r : Int) (K0 : Bool → Option R) : Option R :=
  bi (decide (0 ≤ r))
   (bi (decide (r < 55296))
    (K0 true)
    (bi (decide (57343 < r))
     (bi (decide (r ≤ 1114111))
      (K0 true)
      (K0 false))
     (K0 false)))
   (bi (decide (57343 < r))
    (bi (decide (r ≤ 1114111))
     (K0 true)
     (K0 false))
    (K0 false))

theorem vrune_eq {R : Type} (r : Int) (K0 : Bool → Option R) : l_unicode_utf8_ValidRune r K0 = K0 (decide (runeOk r)) := by
  unfold l_unicode_utf8_ValidRune
  simp only [br_if, decide_eq_true_eq]
  by_cases h : runeOk r
  · rw [decide_eq_true h]
    unfold runeOk at h
    repeat' (first | rfl | refine ite_l (fun _ => ?_) (fun _ => ?_))
    all_goals (exfalso; omega)
  · rw [decide_eq_false h]
    unfold runeOk at h
    repeat' (first | rfl | refine ite_l (fun _ => ?_) (fun _ => ?_))
    all_goals (exfalso; omega)

abbrev LT_dot_Label := {R : Type} → (List Int) → Int → (ByteArray → Int → Option R) → Option R
/-- tutor/dot.Label -/
def l_dot_Label {R : Type} (names : List Int) (x : Int) (K0 : ByteArray → Int → Option R) : Option R :=
  bi (decide (x < 0))
   (K0 ByteArray.empty 10)
   (bi (decide (x ≥ (names.length : Int)))
    (K0 ByteArray.empty 10)
    (bi (decide (0 ≤ x ∧ x < ((names.length : Nat) : Int)))
     (l_unicode_utf8_ValidRune (names.getD x.toNat 0)
      (fun r1 =>
       bi (!r1)
        (K0 ByteArray.empty 20)
        (bi (decide ((names.getD x.toNat 0) < 33))
         (K0 ByteArray.empty 20)
         (bi ((names.getD x.toNat 0) == 127)
          (K0 ByteArray.empty 20)
          (bi ((names.getD x.toNat 0) == 34)
           (bi (catOk (ByteArray.mk #[92]) (Utf8.encode (names.getD x.toNat 0)))
            (K0 ((ByteArray.mk #[92]) ++ (Utf8.encode (names.getD x.toNat 0))) 0)
            none)
           (bi ((names.getD x.toNat 0) == 92)
            (bi (catOk (ByteArray.mk #[92]) (Utf8.encode (names.getD x.toNat 0)))
             (K0 ((ByteArray.mk #[92]) ++ (Utf8.encode (names.getD x.toNat 0))) 0)
             none)
            (K0 (Utf8.encode (names.getD x.toNat 0)) 0)))))))
     none))

theorem label_eq {R : Type} (names : List Int) (x : Int) (K0 : ByteArray → Int → Option R) : l_dot_Label names x K0 = K0 (labelS names x).1 (labelS names x).2 := by
  unfold l_dot_Label labelS
  by_cases h1 : x < 0
  · rw [br_pos h1, if_pos (.inl h1)]
  by_cases h2 : x ≥ names.length
  · rw [br_neg h1, br_pos h2, if_pos (.inr h2)]
  rw [br_neg h1, br_neg h2, if_neg (by omega), br_pos (by omega), vrune_eq]
  try dsimp only
  generalize names.getD x.toNat 0 = c
  by_cases h3 : runeOk c
  · rw [decide_eq_true h3, show (!true) = false from rfl, br_ff]
    have hsz : (Utf8.encode c).size ≤ 4 := by rw [← bts_size, enc_bts h3]; exact (putU_len c).2
    have hb : (ByteArray.mk #[92]).size = 1 := rfl
    by_cases h4 : c < 33
    · rw [br_pos h4, if_neg (fun h => by unfold labOk at h; omega)]
    · rw [br_neg h4]
      by_cases h5 : c = 127
      · rw [br_eq h5, if_neg (fun h => by unfold labOk at h; omega)]
      · rw [br_eq' h5, if_pos ⟨h3, by omega, h5⟩]
        unfold labB
        by_cases h6 : c = 34
        · rw [br_eq h6, br_cat (by omega), if_pos (.inl h6)]
        · rw [br_eq' h6]
          by_cases h7 : c = 92
          · rw [br_eq h7, br_cat (by omega), if_pos (.inr h7)]
          · rw [br_eq' h7, if_neg (by omega)]
  · rw [decide_eq_false h3, show (!false) = true from rfl, br_tt, if_neg (fun h => h3 h.1)]

abbrev LT_dot_pen_line_fdot_Dot_2 := {R : Type} → (List ByteArray) → (List Int) → (List ByteArray) → Int → Int → Int → Int → (List Int) → (List Int) → ((List ByteArray) → Int → Int → Int → Int → (List Int) → (List Int) → (List Int) → Option R) → Option R
abbrev GT_dot_pen_line_fdot_Dot_2_2 (R : Type) := (List ByteArray) → Int → Int → (List ByteArray) → Int → Int → Int → Int → (List Int) → (List Int) → (List Int) → Option R
/-- (*tutor/dot.pen).line -/
def s_dot_pen_line_fdot_Dot_2_2 {R : Type} (g20_2 : GT_dot_pen_line_fdot_Dot_2_2 R) (K0 : (List ByteArray) → Int → Int → Int → Int → (List Int) → (List Int) → (List Int) → Option R) (x15 : List ByteArray) (x16 x17 : Int) (o3 : List ByteArray) (o4 o4_1 o4_2 o4_3 : Int) (o4_4 o4_5 o5 : List Int) : Option R :=
  bi (decide (x17 < x16))
   (bi (decide (0 ≤ x17 ∧ x17 < ((x15.length : Nat) : Int)))
    (bi (decide ((o5.length + (bts (x15.getD x17.toNat ByteArray.empty)).length) * 1 ≤ lim))
     (g20_2 x15 x16 (IntKind.i64.wrap (x17 + 1)) o3 o4 o4_1 o4_2 o4_3 o4_4 o4_5 (o5 ++ (bts (x15.getD x17.toNat ByteArray.empty))))
     none)
    none)
   (bi (decide ((o5.length + [10].length) * 1 ≤ lim))
    (K0 o3 o4 o4_1 o4_2 o4_3 o4_4 o4_5 (o5 ++ [10]))
    none)

/-- (*tutor/dot.pen).line -/
def e_dot_pen_line_fdot_Dot_2 {R : Type} (g20_2 : GT_dot_pen_line_fdot_Dot_2_2 R) (K0 : (List ByteArray) → Int → Int → Int → Int → (List Int) → (List Int) → (List Int) → Option R) (l : List ByteArray) (o1 : List Int) (o3 : List ByteArray) (o4 o4_1 o4_2 o4_3 : Int) (o4_4 o4_5 : List Int) : Option R :=
  bi (decide ((o1.length + [32, 32].length) * 1 ≤ lim))
   (g20_2 l (l.length : Int) 0 o3 o4 o4_1 o4_2 o4_3 o4_4 o4_5 (o1 ++ [32, 32]))
   none

def run_dot_pen_line_fdot_Dot_2 {R : Type} (K0 : (List ByteArray) → Int → Int → Int → Int → (List Int) → (List Int) → (List Int) → Option R) : Nat → (List ByteArray) → Int → Int → (List ByteArray) → Int → Int → Int → Int → (List Int) → (List Int) → (List Int) → Option R
  | 0 => fun _ _ _ _ _ _ _ _ _ _ _ => none
  | n + 1 => s_dot_pen_line_fdot_Dot_2_2 (run_dot_pen_line_fdot_Dot_2 K0 n) K0

def l_dot_pen_line_fdot_Dot_2 {R : Type} (l : List ByteArray) (o1 : List Int) (o3 : List ByteArray) (o4 o4_1 o4_2 o4_3 : Int) (o4_4 o4_5 : List Int) (K0 : (List ByteArray) → Int → Int → Int → Int → (List Int) → (List Int) → (List Int) → Option R) : Option R := evl fun fuel => e_dot_pen_line_fdot_Dot_2 (run_dot_pen_line_fdot_Dot_2 K0 fuel) K0 l o1 o3 o4 o4_1 o4_2 o4_3 o4_4 o4_5

theorem ok_dot_pen_line_fdot_Dot_2 {R : Type} (l : List ByteArray) (o1 : List Int) (o3 : List ByteArray) (o4 o4_1 o4_2 o4_3 : Int) (o4_4 o4_5 : List Int) (K0 : (List ByteArray) → Int → Int → Int → Int → (List Int) → (List Int) → (List Int) → Option R) {r : R} (h : l_dot_pen_line_fdot_Dot_2 l o1 o3 o4 o4_1 o4_2 o4_3 o4_4 o4_5 K0 = some r) : ∃ fuel, e_dot_pen_line_fdot_Dot_2 (run_dot_pen_line_fdot_Dot_2 K0 fuel) K0 l o1 o3 o4 o4_1 o4_2 o4_3 o4_4 o4_5 = some r := evl_ok h

theorem line2_go {R : Type} (l : List ByteArray) (hl : l.length ≤ 1000) (o3 : List ByteArray) (k K O N : Int) (nx ou : List Int) (K0 : (List ByteArray) → Int → Int → Int → Int → (List Int) → (List Int) → (List Int) → Option R) : ∀ (d i : Nat) (acc : List Int), i + d = l.length → acc.length + ((l.drop i).map bts).flatten.length + 1 ≤ lim →
    Reach (fun m => run_dot_pen_line_fdot_Dot_2 K0 m l (l.length : Int) (i : Int) o3 k K O N nx ou acc) (K0 o3 k K O N nx ou (acc ++ ((l.drop i).map bts).flatten ++ [10])) := by
  intro d
  induction d with
  | zero =>
    intro i acc hi hb
    refine .now fun m => ?_
    dsimp only [run_dot_pen_line_fdot_Dot_2]
    unfold s_dot_pen_line_fdot_Dot_2_2
    rw [List.drop_of_length_le (by omega)] at hb ⊢
    simp only [List.map_nil, List.flatten_nil, List.length_nil, List.append_nil] at hb ⊢
    rw [br_neg (by omega), br_pos (by simp only [List.length_cons, List.length_nil]; omega)]
  | succ d ih =>
    intro i acc hi hb
    have hil : i < l.length := by omega
    rw [List.drop_eq_getElem_cons hil] at hb ⊢
    simp only [List.map_cons, List.flatten_cons, List.length_append] at hb ⊢
    refine .step (fun m => ?_) ((ih (i + 1) (acc ++ bts l[i]) (by omega) (by rw [List.length_append]; omega)).of_eq (by simp only [List.append_assoc]))
    dsimp only [run_dot_pen_line_fdot_Dot_2]
    unfold s_dot_pen_line_fdot_Dot_2_2
    rw [br_pos (by omega), br_pos (by omega), Int.toNat_natCast, getD_of ByteArray.empty hil, br_pos (by omega), wr _ (by omega) (by omega)]
    rfl

theorem line2_eq {R : Type} (l : List ByteArray) (hl : l.length ≤ 1000) (acc : List Int) (o3 : List ByteArray) (k K O N : Int) (nx ou : List Int) (K0 : (List ByteArray) → Int → Int → Int → Int → (List Int) → (List Int) → (List Int) → Option R) (hb : acc.length + (l.map bts).flatten.length + 3 ≤ lim) :
    l_dot_pen_line_fdot_Dot_2 l acc o3 k K O N nx ou K0 = K0 o3 k K O N nx ou (acc ++ lineS (l.map bts).flatten) := by
  unfold l_dot_pen_line_fdot_Dot_2
  refine evl_eq (.same (G := fun m => run_dot_pen_line_fdot_Dot_2 K0 m l (l.length : Int) ((0 : Nat) : Int) o3 k K O N nx ou (acc ++ [32, 32])) (fun m => ?_) ((line2_go l hl o3 k K O N nx ou K0 l.length 0 (acc ++ [32, 32]) (by omega) (by rw [List.drop_zero, List.length_append]; simp only [List.length_cons, List.length_nil]; omega)).of_eq ?_))
  · unfold e_dot_pen_line_fdot_Dot_2
    rw [br_pos (by simp only [List.length_cons, List.length_nil]; omega)]
    rfl
  · rw [List.drop_zero]
    unfold lineS
    simp only [List.append_assoc]

abbrev LT_dot_pen_line_fdot_Dot_1 := {R : Type} → (List ByteArray) → (List Int) → (List ByteArray) → ((List ByteArray) → (List Int) → Option R) → Option R
abbrev GT_dot_pen_line_fdot_Dot_1_2 (R : Type) := (List ByteArray) → Int → Int → (List ByteArray) → (List Int) → Option R
/-- (*tutor/dot.pen).line -/
def s_dot_pen_line_fdot_Dot_1_2 {R : Type} (g20b_2 : GT_dot_pen_line_fdot_Dot_1_2 R) (K0 : (List ByteArray) → (List Int) → Option R) (x15 : List ByteArray) (x16 x17 : Int) (o3 : List ByteArray) (o4 : List Int) : Option R :=
  bi (decide (x17 < x16))
   (bi (decide (0 ≤ x17 ∧ x17 < ((x15.length : Nat) : Int)))
    (bi (decide ((o4.length + (bts (x15.getD x17.toNat ByteArray.empty)).length) * 1 ≤ lim))
     (g20b_2 x15 x16 (IntKind.i64.wrap (x17 + 1)) o3 (o4 ++ (bts (x15.getD x17.toNat ByteArray.empty))))
     none)
    none)
   (bi (decide ((o4.length + [10].length) * 1 ≤ lim))
    (K0 o3 (o4 ++ [10]))
    none)

/-- (*tutor/dot.pen).line -/
def e_dot_pen_line_fdot_Dot_1 {R : Type} (g20b_2 : GT_dot_pen_line_fdot_Dot_1_2 R) (K0 : (List ByteArray) → (List Int) → Option R) (l : List ByteArray) (o1 : List Int) (o3 : List ByteArray) : Option R :=
  bi (decide ((o1.length + [32, 32].length) * 1 ≤ lim))
   (g20b_2 l (l.length : Int) 0 o3 (o1 ++ [32, 32]))
   none

def run_dot_pen_line_fdot_Dot_1 {R : Type} (K0 : (List ByteArray) → (List Int) → Option R) : Nat → (List ByteArray) → Int → Int → (List ByteArray) → (List Int) → Option R
  | 0 => fun _ _ _ _ _ => none
  | n + 1 => s_dot_pen_line_fdot_Dot_1_2 (run_dot_pen_line_fdot_Dot_1 K0 n) K0

def l_dot_pen_line_fdot_Dot_1 {R : Type} (l : List ByteArray) (o1 : List Int) (o3 : List ByteArray) (K0 : (List ByteArray) → (List Int) → Option R) : Option R := evl fun fuel => e_dot_pen_line_fdot_Dot_1 (run_dot_pen_line_fdot_Dot_1 K0 fuel) K0 l o1 o3

theorem ok_dot_pen_line_fdot_Dot_1 {R : Type} (l : List ByteArray) (o1 : List Int) (o3 : List ByteArray) (K0 : (List ByteArray) → (List Int) → Option R) {r : R} (h : l_dot_pen_line_fdot_Dot_1 l o1 o3 K0 = some r) : ∃ fuel, e_dot_pen_line_fdot_Dot_1 (run_dot_pen_line_fdot_Dot_1 K0 fuel) K0 l o1 o3 = some r := evl_ok h

theorem line1_go {R : Type} (l : List ByteArray) (hl : l.length ≤ 1000) (o3 : List ByteArray) (K0 : (List ByteArray) → (List Int) → Option R) : ∀ (d i : Nat) (acc : List Int), i + d = l.length → acc.length + ((l.drop i).map bts).flatten.length + 1 ≤ lim →
    Reach (fun m => run_dot_pen_line_fdot_Dot_1 K0 m l (l.length : Int) (i : Int) o3 acc) (K0 o3 (acc ++ ((l.drop i).map bts).flatten ++ [10])) := by
  intro d
  induction d with
  | zero =>
    intro i acc hi hb
    refine .now fun m => ?_
    dsimp only [run_dot_pen_line_fdot_Dot_1]
    unfold s_dot_pen_line_fdot_Dot_1_2
    rw [List.drop_of_length_le (by omega)] at hb ⊢
    simp only [List.map_nil, List.flatten_nil, List.length_nil, List.append_nil] at hb ⊢
    rw [br_neg (by omega), br_pos (by simp only [List.length_cons, List.length_nil]; omega)]
  | succ d ih =>
    intro i acc hi hb
    have hil : i < l.length := by omega
    rw [List.drop_eq_getElem_cons hil] at hb ⊢
    simp only [List.map_cons, List.flatten_cons, List.length_append] at hb ⊢
    refine .step (fun m => ?_) ((ih (i + 1) (acc ++ bts l[i]) (by omega) (by rw [List.length_append]; omega)).of_eq (by simp only [List.append_assoc]))
    dsimp only [run_dot_pen_line_fdot_Dot_1]
    unfold s_dot_pen_line_fdot_Dot_1_2
    rw [br_pos (by omega), br_pos (by omega), Int.toNat_natCast, getD_of ByteArray.empty hil, br_pos (by omega), wr _ (by omega) (by omega)]
    rfl

theorem line1_eq {R : Type} (l : List ByteArray) (hl : l.length ≤ 1000) (acc : List Int) (o3 : List ByteArray) (K0 : (List ByteArray) → (List Int) → Option R) (hb : acc.length + (l.map bts).flatten.length + 3 ≤ lim) :
    l_dot_pen_line_fdot_Dot_1 l acc o3 K0 = K0 o3 (acc ++ lineS (l.map bts).flatten) := by
  unfold l_dot_pen_line_fdot_Dot_1
  refine evl_eq (.same (G := fun m => run_dot_pen_line_fdot_Dot_1 K0 m l (l.length : Int) ((0 : Nat) : Int) o3 (acc ++ [32, 32])) (fun m => ?_) ((line1_go l hl o3 K0 l.length 0 (acc ++ [32, 32]) (by omega) (by rw [List.drop_zero, List.length_append]; simp only [List.length_cons, List.length_nil]; omega)).of_eq ?_))
  · unfold e_dot_pen_line_fdot_Dot_1
    rw [br_pos (by simp only [List.length_cons, List.length_nil]; omega)]
    rfl
  · rw [List.drop_zero]
    unfold lineS
    simp only [List.append_assoc]

abbrev LT_strconv_AppendInt := {R : Type} → Int → Int → ((List Int) → Option R) → Option R
/-- strconv.AppendInt -/
def l_strconv_AppendInt {R : Type} (i base : Int) (K0 : List Int → Option R) : Option R := l_AppendInt i base K0

abbrev LT_text_Put := {R : Type} → Int → ((List Int) → Option R) → Option R
/-- tutor/text.Put -/
def l_text_Put {R : Type} (n : Int) (K0 : (List Int) → Option R) : Option R :=
  l_strconv_AppendInt n 10
   (fun r1 =>
    K0 r1)

theorem put_eq {R : Type} {n : Int} (h : inI n) (K0 : List Int → Option R) : l_text_Put n K0 = K0 (itoaI n) := by
  unfold l_text_Put l_strconv_AppendInt l_AppendInt
  unfold inI at h
  rw [br_pos ⟨rfl, h⟩]

abbrev LT_dot_num := {R : Type} → Int → (ByteArray → Option R) → Option R
/-- tutor/dot.num -/
def l_dot_num {R : Type} (n : Int) (K0 : ByteArray → Option R) : Option R :=
  l_text_Put n
   (fun r1 =>
    K0 (ofBts r1))

theorem dnum_eq {R : Type} {n : Int} (h : inI n) (K0 : ByteArray → Option R) : l_dot_num n K0 = K0 (ofBts (itoaI n)) := by
  unfold l_dot_num
  rw [put_eq h]

abbrev LT_dot_edges := {R : Type} → Int → Int → Int → Int → (List Int) → (List Int) → (Int → Int → Int → Int → (List Int) → (List Int) → Option R) → Option R
/-- tutor/dot.edges -/
def l_dot_edges {R : Type} (m m_1 m_2 m_3 : Int) (m_4 m_5 : List Int) (K0 : Int → Int → Int → Int → (List Int) → (List Int) → Option R) : Option R :=
  K0 m m_1 m_2 m_3 m_4 m_5

abbrev LT_dot_Dot_2 := {R : Type} → Int → Int → Int → (List ByteArray) → Int → Int → Int → Int → (List Int) → (List Int) → (ByteArray → (List ByteArray) → Int → Int → Int → Int → (List Int) → (List Int) → Option R) → Option R
/-- tutor/dot.Dot$2 -/
def l_dot_Dot_2 {R : Type} (e e_1 e_2 : Int) (o1 : List ByteArray) (o2 o2_1 o2_2 o2_3 : Int) (o2_4 o2_5 : List Int) (K0 : ByteArray → (List ByteArray) → Int → Int → Int → Int → (List Int) → (List Int) → Option R) : Option R :=
  bi (decide (0 ≤ e_1 ∧ e_1 < ((o1.length : Nat) : Int)))
   (bi (catOk (o1.getD e_1.toNat ByteArray.empty) (ByteArray.mk #[47]))
    (bi (decide (0 ≤ (IntKind.i64.wrap ((IntKind.i64.wrap (e * o2_1)) + e_1)) ∧ (IntKind.i64.wrap ((IntKind.i64.wrap (e * o2_1)) + e_1)) < ((o2_5.length : Nat) : Int)))
     (l_dot_num (o2_5.getD ((IntKind.i64.wrap ((IntKind.i64.wrap (e * o2_1)) + e_1)).toNat) 0)
      (fun r1 =>
       bi (catOk ((o1.getD e_1.toNat ByteArray.empty) ++ (ByteArray.mk #[47])) r1)
        (K0 (((o1.getD e_1.toNat ByteArray.empty) ++ (ByteArray.mk #[47])) ++ r1) o1 o2 o2_1 o2_2 o2_3 o2_4 o2_5)
        none))
     none)
    none)
   none

theorem dlab2_eq {R : Type} (e x t : Int) (o1 : List ByteArray) (k K O N : Int) (nx ou : List Int) {i : Nat} (hi : e * K + x = i) (hs : i < 1000000) (he : 0 ≤ e * K) (hx : 0 ≤ x ∧ x < ((o1.length : Nat) : Int)) (ho : i < ou.length) (hn : inI (ou.getD i 0)) (hz : (o1.getD x.toNat ByteArray.empty).size ≤ 5)
    (K0 : ByteArray → (List ByteArray) → Int → Int → Int → Int → (List Int) → (List Int) → Option R) :
    l_dot_Dot_2 e x t o1 k K O N nx ou K0 = K0 ((o1.getD x.toNat ByteArray.empty ++ ByteArray.mk #[47]) ++ ofBts (itoaI (ou.getD i 0))) o1 k K O N nx ou := by
  have h1 : (ByteArray.mk #[47]).size = 1 := rfl
  have h2 : (ofBts (itoaI (ou.getD i 0))).size ≤ 21 := by rw [← bts_size, num_bts]; exact itoaI_len hn
  have h3 : ((o1.getD x.toNat ByteArray.empty) ++ (ByteArray.mk #[47])).size ≤ 6 := by rw [ByteArray.size_append]; omega
  unfold l_dot_Dot_2
  rw [br_pos hx, br_cat (by omega), wr (e * K) (by omega) (by omega), hi, wr (i : Int) (by omega) (by omega), br_pos (by omega), Int.toNat_natCast, dnum_eq hn]
  try dsimp only
  rw [br_cat (by omega)]

abbrev LT_round_of_dot_Dot_fdot_Dot_2 := {R : Type} → Int → Int → Int → (List Int) → (List ByteArray) → Int → Int → Int → Int → (List Int) → (List Int) → ((List ByteArray) → Int → Int → Int → Int → (List Int) → (List Int) → (List Int) → Option R) → Option R
/-- round of tutor/dot.Dot -/
def l_round_of_dot_Dot_fdot_Dot_2 {R : Type} (names names_1 names_2 : Int) (o3 : List Int) (o5 : List ByteArray) (o6 o6_1 o6_2 o6_3 : Int) (o6_4 o6_5 : List Int) (K0 : (List ByteArray) → Int → Int → Int → Int → (List Int) → (List Int) → (List Int) → Option R) : Option R :=
  both
   (l_dot_num names
    (fun r1 =>
     l_dot_num names_2
      (fun r2 =>
       l_dot_Dot_2 names names_1 names_2 o5 o6 o6_1 o6_2 o6_3 o6_4 o6_5
        (fun r3 r4 r5 r6 r7 r8 r9 r10 =>
         l_dot_pen_line_fdot_Dot_2 [r1, (ByteArray.mk #[32, 45, 62, 32]), r2, (ByteArray.mk #[32, 91, 108, 97, 98, 101, 108, 61, 34]), r3, (ByteArray.mk #[34, 93])] o3 r4 r5 r6 r7 r8 r9 r10
          (fun r11 r12 r13 r14 r15 r16 r17 r18 =>
           K0 r11 r12 r13 r14 r15 r16 r17 r18)))))
   (l_dot_num names
    (fun r1 =>
     both
      (l_dot_num names_2
       (fun r2 =>
        l_dot_Dot_2 names names_1 names_2 o5 o6 o6_1 o6_2 o6_3 o6_4 o6_5
         (fun r3 r4 r5 r6 r7 r8 r9 r10 =>
          l_dot_pen_line_fdot_Dot_2 [r1, (ByteArray.mk #[32, 45, 62, 32]), r2, (ByteArray.mk #[32, 91, 108, 97, 98, 101, 108, 61, 34]), r3, (ByteArray.mk #[34, 93])] o3 r4 r5 r6 r7 r8 r9 r10
           (fun r11 r12 r13 r14 r15 r16 r17 r18 =>
            K0 r11 r12 r13 r14 r15 r16 r17 r18))))
      (l_dot_num names_2
       (fun r2 =>
        both
         (l_dot_Dot_2 names names_1 names_2 o5 o6 o6_1 o6_2 o6_3 o6_4 o6_5
          (fun r3 r4 r5 r6 r7 r8 r9 r10 =>
           l_dot_pen_line_fdot_Dot_2 [r1, (ByteArray.mk #[32, 45, 62, 32]), r2, (ByteArray.mk #[32, 91, 108, 97, 98, 101, 108, 61, 34]), r3, (ByteArray.mk #[34, 93])] o3 r4 r5 r6 r7 r8 r9 r10
            (fun r11 r12 r13 r14 r15 r16 r17 r18 =>
             K0 r11 r12 r13 r14 r15 r16 r17 r18)))
         (l_dot_Dot_2 names names_1 names_2 o5 o6 o6_1 o6_2 o6_3 o6_4 o6_5
          (fun r3 r4 r5 r6 r7 r8 r9 r10 =>
           twice
            (l_dot_pen_line_fdot_Dot_2 [r1, (ByteArray.mk #[32, 45, 62, 32]), r2, (ByteArray.mk #[32, 91, 108, 97, 98, 101, 108, 61, 34]), r3, (ByteArray.mk #[34, 93])] o3 r4 r5 r6 r7 r8 r9 r10
             (fun r11 r12 r13 r14 r15 r16 r17 r18 =>
              K0 r11 r12 r13 r14 r15 r16 r17 r18))))))))

theorem round2_eq {R : Type} {s x t : Int} (acc : List Int) (o5 : List ByteArray) (k K O N : Int) (nx ou : List Int) {i : Nat} (hi : s * K + x = i) (hs' : i < 1000000) (he : 0 ≤ s * K) (hs : inI s) (ht : inI t) (hx : 0 ≤ x ∧ x < ((o5.length : Nat) : Int)) (ho : i < ou.length) (hn : inI (ou.getD i 0)) (hz : (o5.getD x.toNat ByteArray.empty).size ≤ 5) (hb : acc.length ≤ 10000000)
    (K0 : (List ByteArray) → Int → Int → Int → Int → (List Int) → (List Int) → (List Int) → Option R) :
    l_round_of_dot_Dot_fdot_Dot_2 s x t acc o5 k K O N nx ou K0 = K0 o5 k K O N nx ou (acc ++ lineS (itoaI s ++ [32, 45, 62, 32] ++ itoaI t ++ sLabel ++ (bts (o5.getD x.toNat ByteArray.empty) ++ [47] ++ itoaI (ou.getD i 0)) ++ [34, 93])) := by
  have a1 := itoaI_len hs
  have a2 := itoaI_len ht
  have a3 := bts_size (o5.getD x.toNat ByteArray.empty)
  have a4 := itoaI_len hn
  have e : ([ofBts (itoaI s), ByteArray.mk #[32, 45, 62, 32], ofBts (itoaI t), ByteArray.mk #[32, 91, 108, 97, 98, 101, 108, 61, 34], (o5.getD x.toNat ByteArray.empty ++ ByteArray.mk #[47]) ++ ofBts (itoaI (ou.getD i 0)), ByteArray.mk #[34, 93]].map bts).flatten = itoaI s ++ [32, 45, 62, 32] ++ itoaI t ++ sLabel ++ (bts (o5.getD x.toNat ByteArray.empty) ++ [47] ++ itoaI (ou.getD i 0)) ++ [34, 93] := by
    simp only [List.map_cons, List.map_nil, List.flatten_cons, List.flatten_nil, num_bts, bts_app, List.append_assoc]
    rfl
  have hl : acc.length + ([ofBts (itoaI s), ByteArray.mk #[32, 45, 62, 32], ofBts (itoaI t), ByteArray.mk #[32, 91, 108, 97, 98, 101, 108, 61, 34], (o5.getD x.toNat ByteArray.empty ++ ByteArray.mk #[47]) ++ ofBts (itoaI (ou.getD i 0)), ByteArray.mk #[34, 93]].map bts).flatten.length + 3 ≤ lim := by
    rw [e]
    simp only [List.length_append, List.length_cons, List.length_nil, sLabel, lim]
    omega
  unfold l_round_of_dot_Dot_fdot_Dot_2
  simp only [dnum_eq hs, dnum_eq ht, dlab2_eq s x t o5 k K O N nx ou hi hs' he hx ho hn hz, line2_eq _ (by simp) acc o5 k K O N nx ou K0 hl, both_same, twice_eq]
  rw [e]

abbrev LT_dot_edges_1_ydot_Dot_fdot_Dot_2 := {R : Type} → (List Int) → (List ByteArray) → Int → Int → Int → Int → (List Int) → (List Int) → Int → Int → Int → Int → (List Int) → (List Int) → ((List Int) → (List ByteArray) → Int → Int → Int → Int → (List Int) → (List Int) → Int → Int → Int → Int → (List Int) → (List Int) → Option R) → ((List ByteArray) → Int → Int → Int → Int → (List Int) → (List Int) → Int → Int → Int → Int → (List Int) → (List Int) → (List Int) → Option R) → Option R
abbrev GT_dot_edges_1_ydot_Dot_fdot_Dot_2_1a (R : Type) := (List Int) → Int → Int → (List Int) → (List ByteArray) → Int → Int → Int → Int → (List Int) → (List Int) → Int → Int → Int → Int → (List Int) → (List Int) → Option R
abbrev GT_dot_edges_1_ydot_Dot_fdot_Dot_2_1b (R : Type) := (List Int) → Int → Int → (List ByteArray) → Int → Int → Int → Int → (List Int) → (List Int) → Int → Int → Int → Int → (List Int) → (List Int) → (List Int) → Option R
/-- tutor/dot.edges$1 -/
def s_dot_edges_1_ydot_Dot_fdot_Dot_2_1a {R : Type} (g31_1 : GT_dot_edges_1_ydot_Dot_fdot_Dot_2_1a R) (g31_1b : GT_dot_edges_1_ydot_Dot_fdot_Dot_2_1b R) (K0 : (List Int) → (List ByteArray) → Int → Int → Int → Int → (List Int) → (List Int) → Int → Int → Int → Int → (List Int) → (List Int) → Option R) (K1 : (List ByteArray) → Int → Int → Int → Int → (List Int) → (List Int) → Int → Int → Int → Int → (List Int) → (List Int) → (List Int) → Option R) (x6 : List Int) (x7 x8 : Int) (o3 : List Int) (o5 : List ByteArray) (o6 o6_1 o6_2 o6_3 : Int) (o6_4 o6_5 : List Int) (o7 o7_1 o7_2 o7_3 : Int) (o7_4 o7_5 : List Int) : Option R :=
  bi (decide (x8 < x7))
   (bi (decide (0 ≤ x8 ∧ x8 < ((x6.length : Nat) : Int)))
    (bi (decide (o7_1 = 0))
     none
     (bi (decide (o7_1 = 0))
      none
      (l_round_of_dot_Dot_fdot_Dot_2 (IntKind.i64.wrap (x8.tdiv o7_1)) (x8.tmod o7_1) (x6.getD x8.toNat 0) o3 o5 o6 o6_1 o6_2 o6_3 o6_4 o6_5
       (fun r1 r2 r3 r4 r5 r6 r7 r8 =>
        g31_1b x6 x7 (IntKind.i64.wrap (x8 + 1)) r1 r2 r3 r4 r5 r6 r7 o7 o7_1 o7_2 o7_3 o7_4 o7_5 r8))))
    none)
   (K0 o3 o5 o6 o6_1 o6_2 o6_3 o6_4 o6_5 o7 o7_1 o7_2 o7_3 o7_4 o7_5)

/-- tutor/dot.edges$1 -/
def s_dot_edges_1_ydot_Dot_fdot_Dot_2_1b {R : Type} (g31_1 : GT_dot_edges_1_ydot_Dot_fdot_Dot_2_1a R) (g31_1b : GT_dot_edges_1_ydot_Dot_fdot_Dot_2_1b R) (K0 : (List Int) → (List ByteArray) → Int → Int → Int → Int → (List Int) → (List Int) → Int → Int → Int → Int → (List Int) → (List Int) → Option R) (K1 : (List ByteArray) → Int → Int → Int → Int → (List Int) → (List Int) → Int → Int → Int → Int → (List Int) → (List Int) → (List Int) → Option R) (x6 : List Int) (x7 x8 : Int) (o5 : List ByteArray) (o6 o6_1 o6_2 o6_3 : Int) (o6_4 o6_5 : List Int) (o7 o7_1 o7_2 o7_3 : Int) (o7_4 o7_5 o8 : List Int) : Option R :=
  bi (decide (x8 < x7))
   (bi (decide (0 ≤ x8 ∧ x8 < ((x6.length : Nat) : Int)))
    (bi (decide (o7_1 = 0))
     none
     (bi (decide (o7_1 = 0))
      none
      (l_round_of_dot_Dot_fdot_Dot_2 (IntKind.i64.wrap (x8.tdiv o7_1)) (x8.tmod o7_1) (x6.getD x8.toNat 0) o8 o5 o6 o6_1 o6_2 o6_3 o6_4 o6_5
       (fun r9 r10 r11 r12 r13 r14 r15 r16 =>
        g31_1b x6 x7 (IntKind.i64.wrap (x8 + 1)) r9 r10 r11 r12 r13 r14 r15 o7 o7_1 o7_2 o7_3 o7_4 o7_5 r16))))
    none)
   (K1 o5 o6 o6_1 o6_2 o6_3 o6_4 o6_5 o7 o7_1 o7_2 o7_3 o7_4 o7_5 o8)

/-- tutor/dot.edges$1 -/
def e_dot_edges_1_ydot_Dot_fdot_Dot_2 {R : Type} (g31_1 : GT_dot_edges_1_ydot_Dot_fdot_Dot_2_1a R) (g31_1b : GT_dot_edges_1_ydot_Dot_fdot_Dot_2_1b R) (K0 : (List Int) → (List ByteArray) → Int → Int → Int → Int → (List Int) → (List Int) → Int → Int → Int → Int → (List Int) → (List Int) → Option R) (K1 : (List ByteArray) → Int → Int → Int → Int → (List Int) → (List Int) → Int → Int → Int → Int → (List Int) → (List Int) → (List Int) → Option R) (o3 : List Int) (o5 : List ByteArray) (o6 o6_1 o6_2 o6_3 : Int) (o6_4 o6_5 : List Int) (o7 o7_1 o7_2 o7_3 : Int) (o7_4 o7_5 : List Int) : Option R :=
  g31_1 o7_4 (o7_4.length : Int) 0 o3 o5 o6 o6_1 o6_2 o6_3 o6_4 o6_5 o7 o7_1 o7_2 o7_3 o7_4 o7_5

def run_dot_edges_1_ydot_Dot_fdot_Dot_2 {R : Type} (K0 : (List Int) → (List ByteArray) → Int → Int → Int → Int → (List Int) → (List Int) → Int → Int → Int → Int → (List Int) → (List Int) → Option R) (K1 : (List ByteArray) → Int → Int → Int → Int → (List Int) → (List Int) → Int → Int → Int → Int → (List Int) → (List Int) → (List Int) → Option R) : Nat → ((List Int) → Int → Int → (List Int) → (List ByteArray) → Int → Int → Int → Int → (List Int) → (List Int) → Int → Int → Int → Int → (List Int) → (List Int) → Option R) × ((List Int) → Int → Int → (List ByteArray) → Int → Int → Int → Int → (List Int) → (List Int) → Int → Int → Int → Int → (List Int) → (List Int) → (List Int) → Option R)
  | 0 => (fun _ _ _ _ _ _ _ _ _ _ _ _ _ _ _ _ _ => none, fun _ _ _ _ _ _ _ _ _ _ _ _ _ _ _ _ _ => none)
  | n + 1 => (s_dot_edges_1_ydot_Dot_fdot_Dot_2_1a (run_dot_edges_1_ydot_Dot_fdot_Dot_2 K0 K1 n).1 (run_dot_edges_1_ydot_Dot_fdot_Dot_2 K0 K1 n).2 K0 K1, s_dot_edges_1_ydot_Dot_fdot_Dot_2_1b (run_dot_edges_1_ydot_Dot_fdot_Dot_2 K0 K1 n).1 (run_dot_edges_1_ydot_Dot_fdot_Dot_2 K0 K1 n).2 K0 K1)

def l_dot_edges_1_ydot_Dot_fdot_Dot_2 {R : Type} (o3 : List Int) (o5 : List ByteArray) (o6 o6_1 o6_2 o6_3 : Int) (o6_4 o6_5 : List Int) (o7 o7_1 o7_2 o7_3 : Int) (o7_4 o7_5 : List Int) (K0 : (List Int) → (List ByteArray) → Int → Int → Int → Int → (List Int) → (List Int) → Int → Int → Int → Int → (List Int) → (List Int) → Option R) (K1 : (List ByteArray) → Int → Int → Int → Int → (List Int) → (List Int) → Int → Int → Int → Int → (List Int) → (List Int) → (List Int) → Option R) : Option R := evl fun fuel => e_dot_edges_1_ydot_Dot_fdot_Dot_2 (run_dot_edges_1_ydot_Dot_fdot_Dot_2 K0 K1 fuel).1 (run_dot_edges_1_ydot_Dot_fdot_Dot_2 K0 K1 fuel).2 K0 K1 o3 o5 o6 o6_1 o6_2 o6_3 o6_4 o6_5 o7 o7_1 o7_2 o7_3 o7_4 o7_5

theorem ok_dot_edges_1_ydot_Dot_fdot_Dot_2 {R : Type} (o3 : List Int) (o5 : List ByteArray) (o6 o6_1 o6_2 o6_3 : Int) (o6_4 o6_5 : List Int) (o7 o7_1 o7_2 o7_3 : Int) (o7_4 o7_5 : List Int) (K0 : (List Int) → (List ByteArray) → Int → Int → Int → Int → (List Int) → (List Int) → Int → Int → Int → Int → (List Int) → (List Int) → Option R) (K1 : (List ByteArray) → Int → Int → Int → Int → (List Int) → (List Int) → Int → Int → Int → Int → (List Int) → (List Int) → (List Int) → Option R) {r : R} (h : l_dot_edges_1_ydot_Dot_fdot_Dot_2 o3 o5 o6 o6_1 o6_2 o6_3 o6_4 o6_5 o7 o7_1 o7_2 o7_3 o7_4 o7_5 K0 K1 = some r) : ∃ fuel, e_dot_edges_1_ydot_Dot_fdot_Dot_2 (run_dot_edges_1_ydot_Dot_fdot_Dot_2 K0 K1 fuel).1 (run_dot_edges_1_ydot_Dot_fdot_Dot_2 K0 K1 fuel).2 K0 K1 o3 o5 o6 o6_1 o6_2 o6_3 o6_4 o6_5 o7 o7_1 o7_2 o7_3 o7_4 o7_5 = some r := evl_ok h

theorem st_dot_edges_1_ydot_Dot_fdot_Dot_2_1a {R : Type} (K0 : (List Int) → (List ByteArray) → Int → Int → Int → Int → (List Int) → (List Int) → Int → Int → Int → Int → (List Int) → (List Int) → Option R) (K1 : (List ByteArray) → Int → Int → Int → Int → (List Int) → (List Int) → Int → Int → Int → Int → (List Int) → (List Int) → (List Int) → Option R) (fuel : Nat) (x6 : List Int) (x7 x8 : Int) (o3 : List Int) (o5 : List ByteArray) (o6 o6_1 o6_2 o6_3 : Int) (o6_4 o6_5 : List Int) (o7 o7_1 o7_2 o7_3 : Int) (o7_4 o7_5 : List Int) : (run_dot_edges_1_ydot_Dot_fdot_Dot_2 K0 K1 (fuel + 1)).1 x6 x7 x8 o3 o5 o6 o6_1 o6_2 o6_3 o6_4 o6_5 o7 o7_1 o7_2 o7_3 o7_4 o7_5 = s_dot_edges_1_ydot_Dot_fdot_Dot_2_1a (run_dot_edges_1_ydot_Dot_fdot_Dot_2 K0 K1 fuel).1 (run_dot_edges_1_ydot_Dot_fdot_Dot_2 K0 K1 fuel).2 K0 K1 x6 x7 x8 o3 o5 o6 o6_1 o6_2 o6_3 o6_4 o6_5 o7 o7_1 o7_2 o7_3 o7_4 o7_5 := rfl

theorem st_dot_edges_1_ydot_Dot_fdot_Dot_2_1b {R : Type} (K0 : (List Int) → (List ByteArray) → Int → Int → Int → Int → (List Int) → (List Int) → Int → Int → Int → Int → (List Int) → (List Int) → Option R) (K1 : (List ByteArray) → Int → Int → Int → Int → (List Int) → (List Int) → Int → Int → Int → Int → (List Int) → (List Int) → (List Int) → Option R) (fuel : Nat) (x6 : List Int) (x7 x8 : Int) (o5 : List ByteArray) (o6 o6_1 o6_2 o6_3 : Int) (o6_4 o6_5 : List Int) (o7 o7_1 o7_2 o7_3 : Int) (o7_4 o7_5 o8 : List Int) : (run_dot_edges_1_ydot_Dot_fdot_Dot_2 K0 K1 (fuel + 1)).2 x6 x7 x8 o5 o6 o6_1 o6_2 o6_3 o6_4 o6_5 o7 o7_1 o7_2 o7_3 o7_4 o7_5 o8 = s_dot_edges_1_ydot_Dot_fdot_Dot_2_1b (run_dot_edges_1_ydot_Dot_fdot_Dot_2 K0 K1 fuel).1 (run_dot_edges_1_ydot_Dot_fdot_Dot_2 K0 K1 fuel).2 K0 K1 x6 x7 x8 o5 o6 o6_1 o6_2 o6_3 o6_4 o6_5 o7 o7_1 o7_2 o7_3 o7_4 o7_5 o8 := rfl

theorem edge2_step {R : Type} {k K O N : Int} {nx ou names : List Int} (D : DotOk k K O N nx ou names) (hk : k = 2) {i : Nat} (hi : i < nx.length) (K0 : (List ByteArray) → Int → Int → Int → Int → (List Int) → (List Int) → (List Int) → Option R) :
    l_round_of_dot_Dot_fdot_Dot_2 (IntKind.i64.wrap ((i : Int).tdiv K)) ((i : Int).tmod K) (nx.getD i 0) (partS (linesEd k K N nx ou names i)) (names.map labB) k K O N nx ou K0 = K0 (names.map labB) k K O N nx ou (partS (linesEd k K N nx ou names (i + 1))) := by
  obtain ⟨h1, h2, h3, h4⟩ := D.idx hi
  have hN := D.F.fN
  have hK := D.F.fK
  have hn := D.nxv hi
  have hp := partEd_len D (Nat.le_of_lt hi)
  obtain ⟨hl1, hl2⟩ := D.lab (x := i % K.toNat) (by omega)
  have hsz := labB_size hl1.1
  obtain ⟨q, rfl⟩ : ∃ q : Nat, K = q := ⟨K.toNat, by omega⟩
  simp only [Int.toNat_natCast] at *
  have hx := D.lenNx.2
  rw [show (i : Int).tdiv (q : Int) = ((i / q : Nat) : Int) from rfl, show (i : Int).tmod (q : Int) = ((i % q : Nat) : Int) from rfl]
  rw [linesEd_succ, part_snoc]
  unfold edS onS
  rw [Int.toNat_natCast]
  generalize i / q = a at *
  generalize i % q = b at *
  rw [wr (a : Int) (by omega) (by omega)]
  have ho : i < ou.length := by
    have a1 := D.F.fou2 hk
    have a2 := D.F.fnx
    omega
  have hov := D.ouv i
  have hq : (a : Int) * (q : Int) + (b : Int) = (i : Int) := by exact_mod_cast h3
  rw [round2_eq _ _ _ _ _ _ _ _ hq (by omega) (by exact_mod_cast Nat.zero_le _) (by unfold inI; omega) (by unfold inI; omega) ⟨by omega, by rw [List.length_map]; omega⟩ ho (by unfold inI; omega) (by rw [Int.toNat_natCast, hl2]; exact hsz) (by omega)]
  rw [Int.toNat_natCast, hl2, lab_bts hl1.1, if_pos hk]

theorem edges2_go {R : Type} {k K O N : Int} {nx ou names : List Int} (D : DotOk k K O N nx ou names) (hk : k = 2) (K0 : (List Int) → (List ByteArray) → Int → Int → Int → Int → (List Int) → (List Int) → Int → Int → Int → Int → (List Int) → (List Int) → Option R) (K1 : (List ByteArray) → Int → Int → Int → Int → (List Int) → (List Int) → Int → Int → Int → Int → (List Int) → (List Int) → (List Int) → Option R) : ∀ (d i : Nat), i + d = nx.length →
    Reach (fun m => (run_dot_edges_1_ydot_Dot_fdot_Dot_2 K0 K1 m).2 nx (nx.length : Int) (i : Int) (names.map labB) k K O N nx ou k K O N nx ou (partS (linesEd k K N nx ou names i))) (K1 (names.map labB) k K O N nx ou k K O N nx ou (partS (linesEd k K N nx ou names nx.length))) := by
  have hK := D.F.fK
  have hx := D.lenNx.2
  intro d
  induction d with
  | zero =>
    intro i hi
    refine .now fun m => ?_
    dsimp only [run_dot_edges_1_ydot_Dot_fdot_Dot_2]
    unfold s_dot_edges_1_ydot_Dot_fdot_Dot_2_1b
    obtain rfl : i = nx.length := by omega
    rw [br_neg (by omega)]
  | succ d ih =>
    intro i hi
    refine .step (fun m => ?_) (ih (i + 1) (by omega))
    dsimp only [run_dot_edges_1_ydot_Dot_fdot_Dot_2]
    unfold s_dot_edges_1_ydot_Dot_fdot_Dot_2_1b
    rw [br_pos (by omega), br_pos (by omega), br_neg (by omega), br_neg (by omega), Int.toNat_natCast, edge2_step D hk (by omega), wr _ (by omega) (by omega)]
    rfl

theorem edges2_eq {R : Type} {k K O N : Int} {nx ou names : List Int} (D : DotOk k K O N nx ou names) (hk : k = 2) (K0 : (List Int) → (List ByteArray) → Int → Int → Int → Int → (List Int) → (List Int) → Int → Int → Int → Int → (List Int) → (List Int) → Option R) (K1 : (List ByteArray) → Int → Int → Int → Int → (List Int) → (List Int) → Int → Int → Int → Int → (List Int) → (List Int) → (List Int) → Option R) :
    l_dot_edges_1_ydot_Dot_fdot_Dot_2 (partS (linesEd k K N nx ou names 0)) (names.map labB) k K O N nx ou k K O N nx ou K0 K1 = K1 (names.map labB) k K O N nx ou k K O N nx ou (partS (linesEd k K N nx ou names nx.length)) := by
  have hK := D.F.fK
  have hx := D.lenNx.2
  have h0 : 0 < nx.length := D.pos
  unfold l_dot_edges_1_ydot_Dot_fdot_Dot_2
  refine evl_eq (.same (G := fun m => (run_dot_edges_1_ydot_Dot_fdot_Dot_2 K0 K1 m).1 nx (nx.length : Int) ((0 : Nat) : Int) (partS (linesEd k K N nx ou names 0)) (names.map labB) k K O N nx ou k K O N nx ou) (fun m => rfl) (.step (fun m => ?_) (edges2_go D hk K0 K1 (nx.length - 1) 1 (by omega))))
  dsimp only [run_dot_edges_1_ydot_Dot_fdot_Dot_2]
  unfold s_dot_edges_1_ydot_Dot_fdot_Dot_2_1a
  rw [br_pos (by omega), br_pos (by omega), br_neg (by omega), br_neg (by omega), Int.toNat_natCast, edge2_step D hk h0, wr _ (by omega) (by omega)]
  rfl

abbrev LT_dot_Dot_1 := {R : Type} → Int → Int → Int → (List ByteArray) → (ByteArray → (List ByteArray) → Option R) → Option R
/-- tutor/dot.Dot$1 -/
def l_dot_Dot_1 {R : Type} (e e_1 e_2 : Int) (o1 : List ByteArray) (K0 : ByteArray → (List ByteArray) → Option R) : Option R :=
  bi (decide (0 ≤ e_1 ∧ e_1 < ((o1.length : Nat) : Int)))
   (K0 (o1.getD e_1.toNat ByteArray.empty) o1)
   none

theorem dlab1_eq {R : Type} (e x t : Int) (o1 : List ByteArray) (h : 0 ≤ x ∧ x < ((o1.length : Nat) : Int)) (K0 : ByteArray → (List ByteArray) → Option R) : l_dot_Dot_1 e x t o1 K0 = K0 (o1.getD x.toNat ByteArray.empty) o1 := by
  unfold l_dot_Dot_1
  rw [br_pos h]

abbrev LT_round_of_dot_Dot_fdot_Dot_1 := {R : Type} → Int → Int → Int → (List Int) → (List ByteArray) → ((List ByteArray) → (List Int) → Option R) → Option R
/-- round of tutor/dot.Dot -/
def l_round_of_dot_Dot_fdot_Dot_1 {R : Type} (names names_1 names_2 : Int) (o3 : List Int) (o5 : List ByteArray) (K0 : (List ByteArray) → (List Int) → Option R) : Option R :=
  both
   (l_dot_num names
    (fun r1 =>
     l_dot_num names_2
      (fun r2 =>
       l_dot_Dot_1 names names_1 names_2 o5
        (fun r3 r4 =>
         l_dot_pen_line_fdot_Dot_1 [r1, (ByteArray.mk #[32, 45, 62, 32]), r2, (ByteArray.mk #[32, 91, 108, 97, 98, 101, 108, 61, 34]), r3, (ByteArray.mk #[34, 93])] o3 r4
          (fun r5 r6 =>
           K0 r5 r6)))))
   (l_dot_num names
    (fun r1 =>
     both
      (l_dot_num names_2
       (fun r2 =>
        l_dot_Dot_1 names names_1 names_2 o5
         (fun r3 r4 =>
          l_dot_pen_line_fdot_Dot_1 [r1, (ByteArray.mk #[32, 45, 62, 32]), r2, (ByteArray.mk #[32, 91, 108, 97, 98, 101, 108, 61, 34]), r3, (ByteArray.mk #[34, 93])] o3 r4
           (fun r5 r6 =>
            K0 r5 r6))))
      (l_dot_num names_2
       (fun r2 =>
        both
         (l_dot_Dot_1 names names_1 names_2 o5
          (fun r3 r4 =>
           l_dot_pen_line_fdot_Dot_1 [r1, (ByteArray.mk #[32, 45, 62, 32]), r2, (ByteArray.mk #[32, 91, 108, 97, 98, 101, 108, 61, 34]), r3, (ByteArray.mk #[34, 93])] o3 r4
            (fun r5 r6 =>
             K0 r5 r6)))
         (l_dot_Dot_1 names names_1 names_2 o5
          (fun r3 r4 =>
           twice
            (l_dot_pen_line_fdot_Dot_1 [r1, (ByteArray.mk #[32, 45, 62, 32]), r2, (ByteArray.mk #[32, 91, 108, 97, 98, 101, 108, 61, 34]), r3, (ByteArray.mk #[34, 93])] o3 r4
             (fun r5 r6 =>
              K0 r5 r6))))))))

theorem round1_eq {R : Type} {s x t : Int} (acc : List Int) (o5 : List ByteArray) (hs : inI s) (ht : inI t) (hx : 0 ≤ x ∧ x < ((o5.length : Nat) : Int)) (hz : (o5.getD x.toNat ByteArray.empty).size ≤ 5) (hb : acc.length ≤ 10000000) (K0 : (List ByteArray) → (List Int) → Option R) :
    l_round_of_dot_Dot_fdot_Dot_1 s x t acc o5 K0 = K0 o5 (acc ++ lineS (itoaI s ++ [32, 45, 62, 32] ++ itoaI t ++ sLabel ++ bts (o5.getD x.toNat ByteArray.empty) ++ [34, 93])) := by
  have a1 := itoaI_len hs
  have a2 := itoaI_len ht
  have a3 := bts_size (o5.getD x.toNat ByteArray.empty)
  have e : ([ofBts (itoaI s), ByteArray.mk #[32, 45, 62, 32], ofBts (itoaI t), ByteArray.mk #[32, 91, 108, 97, 98, 101, 108, 61, 34], o5.getD x.toNat ByteArray.empty, ByteArray.mk #[34, 93]].map bts).flatten = itoaI s ++ [32, 45, 62, 32] ++ itoaI t ++ sLabel ++ bts (o5.getD x.toNat ByteArray.empty) ++ [34, 93] := by
    simp only [List.map_cons, List.map_nil, List.flatten_cons, List.flatten_nil, num_bts, List.append_assoc]
    rfl
  have hl : acc.length + ([ofBts (itoaI s), ByteArray.mk #[32, 45, 62, 32], ofBts (itoaI t), ByteArray.mk #[32, 91, 108, 97, 98, 101, 108, 61, 34], o5.getD x.toNat ByteArray.empty, ByteArray.mk #[34, 93]].map bts).flatten.length + 3 ≤ lim := by
    rw [e]
    simp only [List.length_append, List.length_cons, List.length_nil, sLabel, lim]
    omega
  unfold l_round_of_dot_Dot_fdot_Dot_1
  simp only [dnum_eq hs, dnum_eq ht, dlab1_eq s x t o5 hx, line1_eq _ (by simp) acc o5 K0 hl, both_same, twice_eq]
  rw [e]

abbrev LT_dot_edges_1_ydot_Dot_fdot_Dot_1 := {R : Type} → (List Int) → (List ByteArray) → Int → Int → Int → Int → (List Int) → (List Int) → ((List Int) → (List ByteArray) → Int → Int → Int → Int → (List Int) → (List Int) → Option R) → ((List ByteArray) → Int → Int → Int → Int → (List Int) → (List Int) → (List Int) → Option R) → Option R
abbrev GT_dot_edges_1_ydot_Dot_fdot_Dot_1_1a (R : Type) := (List Int) → Int → Int → (List Int) → (List ByteArray) → Int → Int → Int → Int → (List Int) → (List Int) → Option R
abbrev GT_dot_edges_1_ydot_Dot_fdot_Dot_1_1b (R : Type) := (List Int) → Int → Int → (List ByteArray) → Int → Int → Int → Int → (List Int) → (List Int) → (List Int) → Option R
/-- tutor/dot.edges$1 -/
def s_dot_edges_1_ydot_Dot_fdot_Dot_1_1a {R : Type} (g31b_1 : GT_dot_edges_1_ydot_Dot_fdot_Dot_1_1a R) (g31b_1b : GT_dot_edges_1_ydot_Dot_fdot_Dot_1_1b R) (K0 : (List Int) → (List ByteArray) → Int → Int → Int → Int → (List Int) → (List Int) → Option R) (K1 : (List ByteArray) → Int → Int → Int → Int → (List Int) → (List Int) → (List Int) → Option R) (x6 : List Int) (x7 x8 : Int) (o3 : List Int) (o5 : List ByteArray) (o6 o6_1 o6_2 o6_3 : Int) (o6_4 o6_5 : List Int) : Option R :=
  bi (decide (x8 < x7))
   (bi (decide (0 ≤ x8 ∧ x8 < ((x6.length : Nat) : Int)))
    (bi (decide (o6_1 = 0))
     none
     (bi (decide (o6_1 = 0))
      none
      (l_round_of_dot_Dot_fdot_Dot_1 (IntKind.i64.wrap (x8.tdiv o6_1)) (x8.tmod o6_1) (x6.getD x8.toNat 0) o3 o5
       (fun r1 r2 =>
        g31b_1b x6 x7 (IntKind.i64.wrap (x8 + 1)) r1 o6 o6_1 o6_2 o6_3 o6_4 o6_5 r2))))
    none)
   (K0 o3 o5 o6 o6_1 o6_2 o6_3 o6_4 o6_5)

/-- tutor/dot.edges$1 -/
def s_dot_edges_1_ydot_Dot_fdot_Dot_1_1b {R : Type} (g31b_1 : GT_dot_edges_1_ydot_Dot_fdot_Dot_1_1a R) (g31b_1b : GT_dot_edges_1_ydot_Dot_fdot_Dot_1_1b R) (K0 : (List Int) → (List ByteArray) → Int → Int → Int → Int → (List Int) → (List Int) → Option R) (K1 : (List ByteArray) → Int → Int → Int → Int → (List Int) → (List Int) → (List Int) → Option R) (x6 : List Int) (x7 x8 : Int) (o5 : List ByteArray) (o6 o6_1 o6_2 o6_3 : Int) (o6_4 o6_5 o7 : List Int) : Option R :=
  bi (decide (x8 < x7))
   (bi (decide (0 ≤ x8 ∧ x8 < ((x6.length : Nat) : Int)))
    (bi (decide (o6_1 = 0))
     none
     (bi (decide (o6_1 = 0))
      none
      (l_round_of_dot_Dot_fdot_Dot_1 (IntKind.i64.wrap (x8.tdiv o6_1)) (x8.tmod o6_1) (x6.getD x8.toNat 0) o7 o5
       (fun r3 r4 =>
        g31b_1b x6 x7 (IntKind.i64.wrap (x8 + 1)) r3 o6 o6_1 o6_2 o6_3 o6_4 o6_5 r4))))
    none)
   (K1 o5 o6 o6_1 o6_2 o6_3 o6_4 o6_5 o7)

/-- tutor/dot.edges$1 -/
def e_dot_edges_1_ydot_Dot_fdot_Dot_1 {R : Type} (g31b_1 : GT_dot_edges_1_ydot_Dot_fdot_Dot_1_1a R) (g31b_1b : GT_dot_edges_1_ydot_Dot_fdot_Dot_1_1b R) (K0 : (List Int) → (List ByteArray) → Int → Int → Int → Int → (List Int) → (List Int) → Option R) (K1 : (List ByteArray) → Int → Int → Int → Int → (List Int) → (List Int) → (List Int) → Option R) (o3 : List Int) (o5 : List ByteArray) (o6 o6_1 o6_2 o6_3 : Int) (o6_4 o6_5 : List Int) : Option R :=
  g31b_1 o6_4 (o6_4.length : Int) 0 o3 o5 o6 o6_1 o6_2 o6_3 o6_4 o6_5

def run_dot_edges_1_ydot_Dot_fdot_Dot_1 {R : Type} (K0 : (List Int) → (List ByteArray) → Int → Int → Int → Int → (List Int) → (List Int) → Option R) (K1 : (List ByteArray) → Int → Int → Int → Int → (List Int) → (List Int) → (List Int) → Option R) : Nat → ((List Int) → Int → Int → (List Int) → (List ByteArray) → Int → Int → Int → Int → (List Int) → (List Int) → Option R) × ((List Int) → Int → Int → (List ByteArray) → Int → Int → Int → Int → (List Int) → (List Int) → (List Int) → Option R)
  | 0 => (fun _ _ _ _ _ _ _ _ _ _ _ => none, fun _ _ _ _ _ _ _ _ _ _ _ => none)
  | n + 1 => (s_dot_edges_1_ydot_Dot_fdot_Dot_1_1a (run_dot_edges_1_ydot_Dot_fdot_Dot_1 K0 K1 n).1 (run_dot_edges_1_ydot_Dot_fdot_Dot_1 K0 K1 n).2 K0 K1, s_dot_edges_1_ydot_Dot_fdot_Dot_1_1b (run_dot_edges_1_ydot_Dot_fdot_Dot_1 K0 K1 n).1 (run_dot_edges_1_ydot_Dot_fdot_Dot_1 K0 K1 n).2 K0 K1)

def l_dot_edges_1_ydot_Dot_fdot_Dot_1 {R : Type} (o3 : List Int) (o5 : List ByteArray) (o6 o6_1 o6_2 o6_3 : Int) (o6_4 o6_5 : List Int) (K0 : (List Int) → (List ByteArray) → Int → Int → Int → Int → (List Int) → (List Int) → Option R) (K1 : (List ByteArray) → Int → Int → Int → Int → (List Int) → (List Int) → (List Int) → Option R) : Option R := evl fun fuel => e_dot_edges_1_ydot_Dot_fdot_Dot_1 (run_dot_edges_1_ydot_Dot_fdot_Dot_1 K0 K1 fuel).1 (run_dot_edges_1_ydot_Dot_fdot_Dot_1 K0 K1 fuel).2 K0 K1 o3 o5 o6 o6_1 o6_2 o6_3 o6_4 o6_5

theorem ok_dot_edges_1_ydot_Dot_fdot_Dot_1 {R : Type} (o3 : List Int) (o5 : List ByteArray) (o6 o6_1 o6_2 o6_3 : Int) (o6_4 o6_5 : List Int) (K0 : (List Int) → (List ByteArray) → Int → Int → Int → Int → (List Int) → (List Int) → Option R) (K1 : (List ByteArray) → Int → Int → Int → Int → (List Int) → (List Int) → (List Int) → Option R) {r : R} (h : l_dot_edges_1_ydot_Dot_fdot_Dot_1 o3 o5 o6 o6_1 o6_2 o6_3 o6_4 o6_5 K0 K1 = some r) : ∃ fuel, e_dot_edges_1_ydot_Dot_fdot_Dot_1 (run_dot_edges_1_ydot_Dot_fdot_Dot_1 K0 K1 fuel).1 (run_dot_edges_1_ydot_Dot_fdot_Dot_1 K0 K1 fuel).2 K0 K1 o3 o5 o6 o6_1 o6_2 o6_3 o6_4 o6_5 = some r := evl_ok h

theorem st_dot_edges_1_ydot_Dot_fdot_Dot_1_1a {R : Type} (K0 : (List Int) → (List ByteArray) → Int → Int → Int → Int → (List Int) → (List Int) → Option R) (K1 : (List ByteArray) → Int → Int → Int → Int → (List Int) → (List Int) → (List Int) → Option R) (fuel : Nat) (x6 : List Int) (x7 x8 : Int) (o3 : List Int) (o5 : List ByteArray) (o6 o6_1 o6_2 o6_3 : Int) (o6_4 o6_5 : List Int) : (run_dot_edges_1_ydot_Dot_fdot_Dot_1 K0 K1 (fuel + 1)).1 x6 x7 x8 o3 o5 o6 o6_1 o6_2 o6_3 o6_4 o6_5 = s_dot_edges_1_ydot_Dot_fdot_Dot_1_1a (run_dot_edges_1_ydot_Dot_fdot_Dot_1 K0 K1 fuel).1 (run_dot_edges_1_ydot_Dot_fdot_Dot_1 K0 K1 fuel).2 K0 K1 x6 x7 x8 o3 o5 o6 o6_1 o6_2 o6_3 o6_4 o6_5 := rfl

theorem st_dot_edges_1_ydot_Dot_fdot_Dot_1_1b {R : Type} (K0 : (List Int) → (List ByteArray) → Int → Int → Int → Int → (List Int) → (List Int) → Option R) (K1 : (List ByteArray) → Int → Int → Int → Int → (List Int) → (List Int) → (List Int) → Option R) (fuel : Nat) (x6 : List Int) (x7 x8 : Int) (o5 : List ByteArray) (o6 o6_1 o6_2 o6_3 : Int) (o6_4 o6_5 o7 : List Int) : (run_dot_edges_1_ydot_Dot_fdot_Dot_1 K0 K1 (fuel + 1)).2 x6 x7 x8 o5 o6 o6_1 o6_2 o6_3 o6_4 o6_5 o7 = s_dot_edges_1_ydot_Dot_fdot_Dot_1_1b (run_dot_edges_1_ydot_Dot_fdot_Dot_1 K0 K1 fuel).1 (run_dot_edges_1_ydot_Dot_fdot_Dot_1 K0 K1 fuel).2 K0 K1 x6 x7 x8 o5 o6 o6_1 o6_2 o6_3 o6_4 o6_5 o7 := rfl

theorem edge1_step {R : Type} {k K O N : Int} {nx ou names : List Int} (D : DotOk k K O N nx ou names) (hk : k ≠ 2) {i : Nat} (hi : i < nx.length) (K0 : (List ByteArray) → (List Int) → Option R) :
    l_round_of_dot_Dot_fdot_Dot_1 (IntKind.i64.wrap ((i : Int).tdiv K)) ((i : Int).tmod K) (nx.getD i 0) (partS (linesEd k K N nx ou names i)) (names.map labB) K0 = K0 (names.map labB) (partS (linesEd k K N nx ou names (i + 1))) := by
  obtain ⟨h1, h2, h3, h4⟩ := D.idx hi
  have hN := D.F.fN
  have hK := D.F.fK
  have hn := D.nxv hi
  have hp := partEd_len D (Nat.le_of_lt hi)
  obtain ⟨hl1, hl2⟩ := D.lab (x := i % K.toNat) (by omega)
  have hsz := labB_size hl1.1
  obtain ⟨q, rfl⟩ : ∃ q : Nat, K = q := ⟨K.toNat, by omega⟩
  simp only [Int.toNat_natCast] at *
  have hx := D.lenNx.2
  rw [show (i : Int).tdiv (q : Int) = ((i / q : Nat) : Int) from rfl, show (i : Int).tmod (q : Int) = ((i % q : Nat) : Int) from rfl]
  rw [linesEd_succ, part_snoc]
  unfold edS onS
  rw [Int.toNat_natCast]
  generalize i / q = a at *
  generalize i % q = b at *
  rw [wr (a : Int) (by omega) (by omega)]
  rw [round1_eq _ _ (by unfold inI; omega) (by unfold inI; omega) ⟨by omega, by rw [List.length_map]; omega⟩ (by rw [Int.toNat_natCast, hl2]; exact hsz) (by omega)]
  rw [Int.toNat_natCast, hl2, lab_bts hl1.1, if_neg hk]

theorem edges1_go {R : Type} {k K O N : Int} {nx ou names : List Int} (D : DotOk k K O N nx ou names) (hk : k ≠ 2) (K0 : (List Int) → (List ByteArray) → Int → Int → Int → Int → (List Int) → (List Int) → Option R) (K1 : (List ByteArray) → Int → Int → Int → Int → (List Int) → (List Int) → (List Int) → Option R) : ∀ (d i : Nat), i + d = nx.length →
    Reach (fun m => (run_dot_edges_1_ydot_Dot_fdot_Dot_1 K0 K1 m).2 nx (nx.length : Int) (i : Int) (names.map labB) k K O N nx ou (partS (linesEd k K N nx ou names i))) (K1 (names.map labB) k K O N nx ou (partS (linesEd k K N nx ou names nx.length))) := by
  have hK := D.F.fK
  have hx := D.lenNx.2
  intro d
  induction d with
  | zero =>
    intro i hi
    refine .now fun m => ?_
    dsimp only [run_dot_edges_1_ydot_Dot_fdot_Dot_1]
    unfold s_dot_edges_1_ydot_Dot_fdot_Dot_1_1b
    obtain rfl : i = nx.length := by omega
    rw [br_neg (by omega)]
  | succ d ih =>
    intro i hi
    refine .step (fun m => ?_) (ih (i + 1) (by omega))
    dsimp only [run_dot_edges_1_ydot_Dot_fdot_Dot_1]
    unfold s_dot_edges_1_ydot_Dot_fdot_Dot_1_1b
    rw [br_pos (by omega), br_pos (by omega), br_neg (by omega), br_neg (by omega), Int.toNat_natCast, edge1_step D hk (by omega), wr _ (by omega) (by omega)]
    rfl

theorem edges1_eq {R : Type} {k K O N : Int} {nx ou names : List Int} (D : DotOk k K O N nx ou names) (hk : k ≠ 2) (K0 : (List Int) → (List ByteArray) → Int → Int → Int → Int → (List Int) → (List Int) → Option R) (K1 : (List ByteArray) → Int → Int → Int → Int → (List Int) → (List Int) → (List Int) → Option R) :
    l_dot_edges_1_ydot_Dot_fdot_Dot_1 (partS (linesEd k K N nx ou names 0)) (names.map labB) k K O N nx ou K0 K1 = K1 (names.map labB) k K O N nx ou (partS (linesEd k K N nx ou names nx.length)) := by
  have hK := D.F.fK
  have hx := D.lenNx.2
  have h0 : 0 < nx.length := D.pos
  unfold l_dot_edges_1_ydot_Dot_fdot_Dot_1
  refine evl_eq (.same (G := fun m => (run_dot_edges_1_ydot_Dot_fdot_Dot_1 K0 K1 m).1 nx (nx.length : Int) ((0 : Nat) : Int) (partS (linesEd k K N nx ou names 0)) (names.map labB) k K O N nx ou) (fun m => rfl) (.step (fun m => ?_) (edges1_go D hk K0 K1 (nx.length - 1) 1 (by omega))))
  dsimp only [run_dot_edges_1_ydot_Dot_fdot_Dot_1]
  unfold s_dot_edges_1_ydot_Dot_fdot_Dot_1_1a
  rw [br_pos (by omega), br_pos (by omega), br_neg (by omega), br_neg (by omega), Int.toNat_natCast, edge1_step D hk h0, wr _ (by omega) (by omega)]
  rfl

abbrev LT_dot_Dot := {R : Type} → Int → Int → Int → Int → (List Int) → (List Int) → (List Int) → (Int → (List Int) → Option R) → (Int → (List Int) → Option R) → Option R
abbrev GT_dot_Dot_8 (R : Type) := (List Int) → Int → Int → Int → Int → Int → Int → (List Int) → (List Int) → (List ByteArray) → Option R
abbrev GT_dot_Dot_21a (R : Type) := Int → Int → Int → Int → Int → Int → (List Int) → (List Int) → (List Int) → (List ByteArray) → Option R
abbrev GT_dot_Dot_21b (R : Type) := Int → Int → Int → Int → Int → Int → (List Int) → (List Int) → (List Int) → (List ByteArray) → Option R
/-- tutor/dot.Dot -/
def s_dot_Dot_8 {R : Type} (g9_8 : GT_dot_Dot_8 R) (g9_21 : GT_dot_Dot_21a R) (g9_21b : GT_dot_Dot_21b R) (K0 : Int → (List Int) → Option R) (K1 : Int → (List Int) → Option R) (names : List Int) (x33 x34 o0 o0_1 o0_2 o0_3 : Int) (o0_4 o0_5 : List Int) (o2 : List ByteArray) : Option R :=
  bi (decide (x34 < x33))
   (l_dot_Label names x34
    (fun r3 r4 =>
     bi (r4 != 0)
      (K0 r4 ([] : List Int))
      (bi (decide (0 ≤ x34 ∧ x34 < ((o2.length : Nat) : Int)))
       (g9_8 names x33 (IntKind.i64.wrap (x34 + 1)) o0 o0_1 o0_2 o0_3 o0_4 o0_5 (o2.set x34.toNat r3))
       none)))
   (bi (decide (0 < [100, 105, 103, 114, 97, 112, 104, 32, 109, 32, 123, 10].length))
    (bi (o0 == 2)
     (l_dot_pen_line_fdot_Dot_2 [(ByteArray.mk #[114, 97, 110, 107, 100, 105, 114, 61, 76, 82])] [100, 105, 103, 114, 97, 112, 104, 32, 109, 32, 123, 10] o2 o0 o0_1 o0_2 o0_3 o0_4 o0_5
      (fun r5 r6 r7 r8 r9 r10 r11 r12 =>
       l_dot_pen_line_fdot_Dot_2 [(ByteArray.mk #[115, 116, 97, 114, 116, 32, 91, 115, 104, 97, 112, 101, 61, 112, 111, 105, 110, 116, 93])] r12 r5 r6 r7 r8 r9 r10 r11
        (fun r13 r14 r15 r16 r17 r18 r19 r20 =>
         g9_21 r17 0 r14 r15 r16 r17 r18 r19 r20 r13)))
     (l_dot_pen_line_fdot_Dot_1 [(ByteArray.mk #[114, 97, 110, 107, 100, 105, 114, 61, 76, 82])] [100, 105, 103, 114, 97, 112, 104, 32, 109, 32, 123, 10] o2
      (fun r21 r22 =>
       l_dot_pen_line_fdot_Dot_1 [(ByteArray.mk #[115, 116, 97, 114, 116, 32, 91, 115, 104, 97, 112, 101, 61, 112, 111, 105, 110, 116, 93])] r22 r21
        (fun r23 r24 =>
         g9_21b o0_3 0 o0 o0_1 o0_2 o0_3 o0_4 o0_5 r24 r23))))
    none)

/-- tutor/dot.Dot -/
def s_dot_Dot_21a {R : Type} (g9_8 : GT_dot_Dot_8 R) (g9_21 : GT_dot_Dot_21a R) (g9_21b : GT_dot_Dot_21b R) (K0 : Int → (List Int) → Option R) (K1 : Int → (List Int) → Option R) (x70 x71 o0 o0_1 o0_2 o0_3 : Int) (o0_4 o0_5 o3 : List Int) (o5 : List ByteArray) : Option R :=
  bi (decide (x71 < x70))
   (bi (o0 == 1)
    (bi (decide (0 ≤ x71 ∧ x71 < ((o0_5.length : Nat) : Int)))
     (bi ((o0_5.getD x71.toNat 0) == 1)
      (l_dot_num x71
       (fun r25 =>
        l_dot_pen_line_fdot_Dot_2 [r25, (ByteArray.mk #[32, 91, 115, 104, 97, 112, 101, 61]), (ByteArray.mk #[100, 111, 117, 98, 108, 101, 99, 105, 114, 99, 108, 101]), (ByteArray.mk #[93])] o3 o5 o0 o0_1 o0_2 o0_3 o0_4 o0_5
         (fun r26 r27 r28 r29 r30 r31 r32 r33 =>
          g9_21 x70 (IntKind.i64.wrap (x71 + 1)) r27 r28 r29 r30 r31 r32 r33 r26)))
      (l_dot_num x71
       (fun r34 =>
        l_dot_pen_line_fdot_Dot_2 [r34, (ByteArray.mk #[32, 91, 115, 104, 97, 112, 101, 61]), (ByteArray.mk #[99, 105, 114, 99, 108, 101]), (ByteArray.mk #[93])] o3 o5 o0 o0_1 o0_2 o0_3 o0_4 o0_5
         (fun r35 r36 r37 r38 r39 r40 r41 r42 =>
          g9_21 x70 (IntKind.i64.wrap (x71 + 1)) r36 r37 r38 r39 r40 r41 r42 r35))))
     none)
    (l_dot_num x71
     (fun r43 =>
      l_dot_pen_line_fdot_Dot_2 [r43, (ByteArray.mk #[32, 91, 115, 104, 97, 112, 101, 61]), (ByteArray.mk #[99, 105, 114, 99, 108, 101]), (ByteArray.mk #[93])] o3 o5 o0 o0_1 o0_2 o0_3 o0_4 o0_5
       (fun r44 r45 r46 r47 r48 r49 r50 r51 =>
        g9_21 x70 (IntKind.i64.wrap (x71 + 1)) r45 r46 r47 r48 r49 r50 r51 r44))))
   (l_dot_pen_line_fdot_Dot_2 [(ByteArray.mk #[115, 116, 97, 114, 116, 32, 45, 62, 32, 48])] o3 o5 o0 o0_1 o0_2 o0_3 o0_4 o0_5
    (fun r52 r53 r54 r55 r56 r57 r58 r59 =>
     l_dot_edges r53 r54 r55 r56 r57 r58
      (fun r60 r61 r62 r63 r64 r65 =>
       l_dot_edges_1_ydot_Dot_fdot_Dot_2 r59 r52 r53 r54 r55 r56 r57 r58 r60 r61 r62 r63 r64 r65
        (fun r66 r67 r68 r69 r70 r71 r72 r73 r74 r75 r76 r77 r78 r79 =>
         bi (decide ((r66.length + (bts (ByteArray.mk #[125, 10])).length) * 1 ≤ lim))
          (K1 0 (r66 ++ (bts (ByteArray.mk #[125, 10]))))
          none)
        (fun r80 r81 r82 r83 r84 r85 r86 r87 r88 r89 r90 r91 r92 r93 =>
         bi (decide ((r93.length + (bts (ByteArray.mk #[125, 10])).length) * 1 ≤ lim))
          (K1 0 (r93 ++ (bts (ByteArray.mk #[125, 10]))))
          none))))

/-- tutor/dot.Dot -/
def s_dot_Dot_21b {R : Type} (g9_8 : GT_dot_Dot_8 R) (g9_21 : GT_dot_Dot_21a R) (g9_21b : GT_dot_Dot_21b R) (K0 : Int → (List Int) → Option R) (K1 : Int → (List Int) → Option R) (x70 x71 o0 o0_1 o0_2 o0_3 : Int) (o0_4 o0_5 o3 : List Int) (o5 : List ByteArray) : Option R :=
  bi (decide (x71 < x70))
   (bi (o0 == 1)
    (bi (decide (0 ≤ x71 ∧ x71 < ((o0_5.length : Nat) : Int)))
     (bi ((o0_5.getD x71.toNat 0) == 1)
      (l_dot_num x71
       (fun r94 =>
        l_dot_pen_line_fdot_Dot_1 [r94, (ByteArray.mk #[32, 91, 115, 104, 97, 112, 101, 61]), (ByteArray.mk #[100, 111, 117, 98, 108, 101, 99, 105, 114, 99, 108, 101]), (ByteArray.mk #[93])] o3 o5
         (fun r95 r96 =>
          g9_21b x70 (IntKind.i64.wrap (x71 + 1)) o0 o0_1 o0_2 o0_3 o0_4 o0_5 r96 r95)))
      (l_dot_num x71
       (fun r97 =>
        l_dot_pen_line_fdot_Dot_1 [r97, (ByteArray.mk #[32, 91, 115, 104, 97, 112, 101, 61]), (ByteArray.mk #[99, 105, 114, 99, 108, 101]), (ByteArray.mk #[93])] o3 o5
         (fun r98 r99 =>
          g9_21b x70 (IntKind.i64.wrap (x71 + 1)) o0 o0_1 o0_2 o0_3 o0_4 o0_5 r99 r98))))
     none)
    (l_dot_num x71
     (fun r100 =>
      l_dot_pen_line_fdot_Dot_1 [r100, (ByteArray.mk #[32, 91, 115, 104, 97, 112, 101, 61]), (ByteArray.mk #[99, 105, 114, 99, 108, 101]), (ByteArray.mk #[93])] o3 o5
       (fun r101 r102 =>
        g9_21b x70 (IntKind.i64.wrap (x71 + 1)) o0 o0_1 o0_2 o0_3 o0_4 o0_5 r102 r101))))
   (l_dot_pen_line_fdot_Dot_1 [(ByteArray.mk #[115, 116, 97, 114, 116, 32, 45, 62, 32, 48])] o3 o5
    (fun r103 r104 =>
     l_dot_edges o0 o0_1 o0_2 o0_3 o0_4 o0_5
      (fun r105 r106 r107 r108 r109 r110 =>
       l_dot_edges_1_ydot_Dot_fdot_Dot_1 r104 r103 r105 r106 r107 r108 r109 r110
        (fun r111 r112 r113 r114 r115 r116 r117 r118 =>
         bi (decide ((r111.length + (bts (ByteArray.mk #[125, 10])).length) * 1 ≤ lim))
          (K1 0 (r111 ++ (bts (ByteArray.mk #[125, 10]))))
          none)
        (fun r119 r120 r121 r122 r123 r124 r125 r126 =>
         bi (decide ((r126.length + (bts (ByteArray.mk #[125, 10])).length) * 1 ≤ lim))
          (K1 0 (r126 ++ (bts (ByteArray.mk #[125, 10]))))
          none))))

/-- tutor/dot.Dot -/
def e_dot_Dot {R : Type} (g9_8 : GT_dot_Dot_8 R) (g9_21 : GT_dot_Dot_21a R) (g9_21b : GT_dot_Dot_21b R) (K0 : Int → (List Int) → Option R) (K1 : Int → (List Int) → Option R) (m m_1 m_2 m_3 : Int) (m_4 m_5 names : List Int) : Option R :=
  l_machine_Check m m_1 m_2 m_3 m_4 m_5
   (fun r1 r2 =>
    bi (r2 != 0)
     (K0 r2 ([] : List Int))
     (bi ((names.length : Int) != m_1)
      (K0 1 ([] : List Int))
      (bi (decide (0 ≤ m_1 ∧ m_1 ≤ m_1 ∧ m_1 ≤ 1073741824))
       (g9_8 names m_1 0 m m_1 m_2 m_3 m_4 m_5 (List.replicate m_1.toNat (ByteArray.empty : ByteArray)))
       none)))

def run_dot_Dot {R : Type} (K0 : Int → (List Int) → Option R) (K1 : Int → (List Int) → Option R) : Nat → ((List Int) → Int → Int → Int → Int → Int → Int → (List Int) → (List Int) → (List ByteArray) → Option R) × (Int → Int → Int → Int → Int → Int → (List Int) → (List Int) → (List Int) → (List ByteArray) → Option R) × (Int → Int → Int → Int → Int → Int → (List Int) → (List Int) → (List Int) → (List ByteArray) → Option R)
  | 0 => (fun _ _ _ _ _ _ _ _ _ _ => none, fun _ _ _ _ _ _ _ _ _ _ => none, fun _ _ _ _ _ _ _ _ _ _ => none)
  | n + 1 => (s_dot_Dot_8 (run_dot_Dot K0 K1 n).1 (run_dot_Dot K0 K1 n).2.1 (run_dot_Dot K0 K1 n).2.2 K0 K1, s_dot_Dot_21a (run_dot_Dot K0 K1 n).1 (run_dot_Dot K0 K1 n).2.1 (run_dot_Dot K0 K1 n).2.2 K0 K1, s_dot_Dot_21b (run_dot_Dot K0 K1 n).1 (run_dot_Dot K0 K1 n).2.1 (run_dot_Dot K0 K1 n).2.2 K0 K1)

def l_dot_Dot {R : Type} (m m_1 m_2 m_3 : Int) (m_4 m_5 names : List Int) (K0 : Int → (List Int) → Option R) (K1 : Int → (List Int) → Option R) : Option R := evl fun fuel => e_dot_Dot (run_dot_Dot K0 K1 fuel).1 (run_dot_Dot K0 K1 fuel).2.1 (run_dot_Dot K0 K1 fuel).2.2 K0 K1 m m_1 m_2 m_3 m_4 m_5 names

theorem ok_dot_Dot {R : Type} (m m_1 m_2 m_3 : Int) (m_4 m_5 names : List Int) (K0 : Int → (List Int) → Option R) (K1 : Int → (List Int) → Option R) {r : R} (h : l_dot_Dot m m_1 m_2 m_3 m_4 m_5 names K0 K1 = some r) : ∃ fuel, e_dot_Dot (run_dot_Dot K0 K1 fuel).1 (run_dot_Dot K0 K1 fuel).2.1 (run_dot_Dot K0 K1 fuel).2.2 K0 K1 m m_1 m_2 m_3 m_4 m_5 names = some r := evl_ok h

theorem st_dot_Dot_8 {R : Type} (K0 : Int → (List Int) → Option R) (K1 : Int → (List Int) → Option R) (fuel : Nat) (names : List Int) (x33 x34 o0 o0_1 o0_2 o0_3 : Int) (o0_4 o0_5 : List Int) (o2 : List ByteArray) : (run_dot_Dot K0 K1 (fuel + 1)).1 names x33 x34 o0 o0_1 o0_2 o0_3 o0_4 o0_5 o2 = s_dot_Dot_8 (run_dot_Dot K0 K1 fuel).1 (run_dot_Dot K0 K1 fuel).2.1 (run_dot_Dot K0 K1 fuel).2.2 K0 K1 names x33 x34 o0 o0_1 o0_2 o0_3 o0_4 o0_5 o2 := rfl

theorem st_dot_Dot_21a {R : Type} (K0 : Int → (List Int) → Option R) (K1 : Int → (List Int) → Option R) (fuel : Nat) (x70 x71 o0 o0_1 o0_2 o0_3 : Int) (o0_4 o0_5 o3 : List Int) (o5 : List ByteArray) : (run_dot_Dot K0 K1 (fuel + 1)).2.1 x70 x71 o0 o0_1 o0_2 o0_3 o0_4 o0_5 o3 o5 = s_dot_Dot_21a (run_dot_Dot K0 K1 fuel).1 (run_dot_Dot K0 K1 fuel).2.1 (run_dot_Dot K0 K1 fuel).2.2 K0 K1 x70 x71 o0 o0_1 o0_2 o0_3 o0_4 o0_5 o3 o5 := rfl

theorem st_dot_Dot_21b {R : Type} (K0 : Int → (List Int) → Option R) (K1 : Int → (List Int) → Option R) (fuel : Nat) (x70 x71 o0 o0_1 o0_2 o0_3 : Int) (o0_4 o0_5 o3 : List Int) (o5 : List ByteArray) : (run_dot_Dot K0 K1 (fuel + 1)).2.2 x70 x71 o0 o0_1 o0_2 o0_3 o0_4 o0_5 o3 o5 = s_dot_Dot_21b (run_dot_Dot K0 K1 fuel).1 (run_dot_Dot K0 K1 fuel).2.1 (run_dot_Dot K0 K1 fuel).2.2 K0 K1 x70 x71 o0 o0_1 o0_2 o0_3 o0_4 o0_5 o3 o5 := rfl

theorem dlabels_go {R : Type} {k K O N : Int} {nx ou names : List Int} (hn : (names.length : Int) = K) (hK : 1 ≤ K ∧ K ≤ 64) (hc : ∀ c ∈ names, labOk c) (K0 : Int → (List Int) → Option R) (K1 : Int → (List Int) → Option R) {v : Option R}
    (hv : Reach (fun m => (run_dot_Dot K0 K1 m).1 names K (names.length : Int) k K O N nx ou (names.map labB)) v) : ∀ (d i : Nat), i + d = names.length →
    Reach (fun m => (run_dot_Dot K0 K1 m).1 names K (i : Int) k K O N nx ou (fillL names i)) v := by
  intro d
  induction d with
  | zero =>
    intro i hi
    obtain rfl : i = names.length := by omega
    rw [fillL_all]
    exact hv
  | succ d ih =>
    intro i hi
    have hil : i < names.length := by omega
    refine .step (fun m => ?_) (ih (i + 1) (by omega))
    dsimp only [run_dot_Dot]
    unfold s_dot_Dot_8
    have hf := fillL_len (Nat.le_of_lt hil)
    rw [br_pos (by omega), label_eq, labelS_at hil, if_pos (hc _ (List.getElem_mem hil))]
    try dsimp only
    rw [br_ne' rfl, br_pos (by omega), wr _ (by omega) (by omega), Int.toNat_natCast, fillL_set hil]
    rfl

theorem dlabels_bad {R : Type} {k K O N : Int} {nx ou names : List Int} (hn : (names.length : Int) = K) (hK : 1 ≤ K ∧ K ≤ 64) (K0 : Int → (List Int) → Option R) (K1 : Int → (List Int) → Option R) : ∀ (d i : Nat), i + d = names.length → ¬ (∀ c ∈ names.drop i, labOk c) →
    Reach (fun m => (run_dot_Dot K0 K1 m).1 names K (i : Int) k K O N nx ou (fillL names i)) (K0 20 []) := by
  intro d
  induction d with
  | zero =>
    intro i hi hb
    rw [List.drop_of_length_le (by omega)] at hb
    exact absurd (by simp) hb
  | succ d ih =>
    intro i hi hb
    have hil : i < names.length := by omega
    have hq := all_drop (P := labOk) hil
    by_cases hc : labOk names[i]
    · refine .step (fun m => ?_) (ih (i + 1) (by omega) fun h => hb (hq.2 ⟨hc, h⟩))
      dsimp only [run_dot_Dot]
      unfold s_dot_Dot_8
      have hf := fillL_len (Nat.le_of_lt hil)
      rw [br_pos (by omega), label_eq, labelS_at hil, if_pos hc]
      try dsimp only
      rw [br_ne' rfl, br_pos (by omega), wr _ (by omega) (by omega), Int.toNat_natCast, fillL_set hil]
      rfl
    · refine .now fun m => ?_
      dsimp only [run_dot_Dot]
      unfold s_dot_Dot_8
      rw [br_pos (by omega), label_eq, labelS_at hil, if_neg hc]
      try dsimp only
      rw [br_ne (by omega)]

theorem dstates2_go {R : Type} {k K O N : Int} {nx ou names : List Int} (D : DotOk k K O N nx ou names) (hk : k = 2) (K0 : Int → (List Int) → Option R) (K1 : Int → (List Int) → Option R) : ∀ (d s : Nat), s + d = N.toNat →
    Reach (fun m => (run_dot_Dot K0 K1 m).2.1 N (s : Int) k K O N nx ou (partS (linesSt k ou s)) (names.map labB)) (K1 0 (dotT k K N nx ou names)) := by
  have hN := D.F.fN
  have hx := D.lenNx.2
  intro d
  induction d with
  | zero =>
    intro s hs
    obtain rfl : s = N.toNat := by omega
    refine .now fun m => ?_
    have hp := partSt_len D (Nat.le_refl _)
    have hq := partEd_len D (Nat.le_refl _)
    dsimp only [run_dot_Dot]
    unfold s_dot_Dot_21a
    have e : ([ByteArray.mk #[115, 116, 97, 114, 116, 32, 45, 62, 32, 48]].map bts).flatten = sFirst := by decide
    rw [br_neg (by omega), line2_eq _ (by simp) _ _ _ _ _ _ _ _ _ (by rw [e]; simp only [sFirst, List.length_cons, List.length_nil, lim]; omega), e, ← part_snoc, ← linesEd_zero k K N nx ou names]
    unfold l_dot_edges
    try dsimp only
    rw [edges2_eq D hk]
    have e2 : bts (ByteArray.mk #[125, 10]) = [125, 10] := by decide
    try dsimp only
    rw [e2, br_pos (by simp only [List.length_cons, List.length_nil, lim]; omega), ← text_part]
    rfl
  | succ d ih =>
    intro s hs
    refine .step (fun m => ?_) (ih (s + 1) (by omega))
    have hp := partSt_len D (s := s) (by omega)
    have hi := itoa_short (n := (s : Int)) (by omega)
    dsimp only [run_dot_Dot]
    unfold s_dot_Dot_21a
    have e : ([ofBts (itoaI (s : Int)), ByteArray.mk #[32, 91, 115, 104, 97, 112, 101, 61], ByteArray.mk #[99, 105, 114, 99, 108, 101], ByteArray.mk #[93]].map bts).flatten = stS k ou s := by
      unfold stS
      rw [if_neg (by omega)]
      simp only [List.map_cons, List.map_nil, List.flatten_cons, List.flatten_nil, num_bts, List.append_assoc]
      rfl
    have hl := stS_len (k := k) (ou := ou) (s := s) (by omega)
    rw [br_pos (by omega), br_eq' (by omega), dnum_eq (by unfold inI; omega)]
    try dsimp only
    rw [line2_eq _ (by simp) _ _ _ _ _ _ _ _ _ (by rw [e]; simp only [lim]; omega), e, ← part_snoc, ← linesSt_succ, wr _ (by omega) (by omega)]
    rfl

theorem dstates1_go {R : Type} {k K O N : Int} {nx ou names : List Int} (D : DotOk k K O N nx ou names) (hk : k ≠ 2) (K0 : Int → (List Int) → Option R) (K1 : Int → (List Int) → Option R) : ∀ (d s : Nat), s + d = N.toNat →
    Reach (fun m => (run_dot_Dot K0 K1 m).2.2 N (s : Int) k K O N nx ou (partS (linesSt k ou s)) (names.map labB)) (K1 0 (dotT k K N nx ou names)) := by
  have hN := D.F.fN
  have hx := D.lenNx.2
  have hk1 : k = 1 := by
    have := D.F.fk
    omega
  have ho := D.F.fou1 hk1
  intro d
  induction d with
  | zero =>
    intro s hs
    obtain rfl : s = N.toNat := by omega
    refine .now fun m => ?_
    have hp := partSt_len D (Nat.le_refl _)
    have hq := partEd_len D (Nat.le_refl _)
    dsimp only [run_dot_Dot]
    unfold s_dot_Dot_21b
    have e : ([ByteArray.mk #[115, 116, 97, 114, 116, 32, 45, 62, 32, 48]].map bts).flatten = sFirst := by decide
    rw [br_neg (by omega), line1_eq _ (by simp) _ _ _ (by rw [e]; simp only [sFirst, List.length_cons, List.length_nil, lim]; omega), e, ← part_snoc, ← linesEd_zero k K N nx ou names]
    unfold l_dot_edges
    try dsimp only
    rw [edges1_eq D hk]
    have e2 : bts (ByteArray.mk #[125, 10]) = [125, 10] := by decide
    try dsimp only
    rw [e2, br_pos (by simp only [List.length_cons, List.length_nil, lim]; omega), ← text_part]
    rfl
  | succ d ih =>
    intro s hs
    refine .step (fun m => ?_) (ih (s + 1) (by omega))
    have hp := partSt_len D (s := s) (by omega)
    dsimp only [run_dot_Dot]
    unfold s_dot_Dot_21b
    have hl := stS_len (k := k) (ou := ou) (s := s) (by omega)
    rw [br_pos (by omega), br_eq hk1, br_pos (by omega), Int.toNat_natCast]
    by_cases h : ou.getD s 0 = 1
    · have e : ([ofBts (itoaI (s : Int)), ByteArray.mk #[32, 91, 115, 104, 97, 112, 101, 61], ByteArray.mk #[100, 111, 117, 98, 108, 101, 99, 105, 114, 99, 108, 101], ByteArray.mk #[93]].map bts).flatten = stS k ou s := by
        unfold stS
        rw [if_pos ⟨hk1, h⟩]
        simp only [List.map_cons, List.map_nil, List.flatten_cons, List.flatten_nil, num_bts, List.append_assoc]
        rfl
      rw [br_eq h, dnum_eq (by unfold inI; omega)]
      try dsimp only
      rw [line1_eq _ (by simp) _ _ _ (by rw [e]; simp only [lim]; omega), e, ← part_snoc, ← linesSt_succ, wr _ (by omega) (by omega)]
      rfl
    · have e : ([ofBts (itoaI (s : Int)), ByteArray.mk #[32, 91, 115, 104, 97, 112, 101, 61], ByteArray.mk #[99, 105, 114, 99, 108, 101], ByteArray.mk #[93]].map bts).flatten = stS k ou s := by
        unfold stS
        rw [if_neg (fun q => h q.2)]
        simp only [List.map_cons, List.map_nil, List.flatten_cons, List.flatten_nil, num_bts, List.append_assoc]
        rfl
      rw [br_eq' h, dnum_eq (by unfold inI; omega)]
      try dsimp only
      rw [line1_eq _ (by simp) _ _ _ (by rw [e]; simp only [lim]; omega), e, ← part_snoc, ← linesSt_succ, wr _ (by omega) (by omega)]
      rfl

theorem dmid_go {R : Type} {k K O N : Int} {nx ou names : List Int} (D : DotOk k K O N nx ou names) (K0 : Int → (List Int) → Option R) (K1 : Int → (List Int) → Option R) :
    Reach (fun m => (run_dot_Dot K0 K1 m).1 names K (names.length : Int) k K O N nx ou (names.map labB)) (K1 0 (dotT k K N nx ou names)) := by
  have hn := D.len
  have e1 : ([ByteArray.mk #[114, 97, 110, 107, 100, 105, 114, 61, 76, 82]].map bts).flatten = sRank := by decide
  have e2 : ([ByteArray.mk #[115, 116, 97, 114, 116, 32, 91, 115, 104, 97, 112, 101, 61, 112, 111, 105, 110, 116, 93]].map bts).flatten = sStart := by decide
  have e3 : [100, 105, 103, 114, 97, 112, 104, 32, 109, 32, 123, 10] = sHead := rfl
  have b1 : sHead.length + sRank.length + 3 ≤ lim := by decide
  have b2 : (sHead ++ lineS sRank).length + sStart.length + 3 ≤ lim := by decide
  by_cases hk : k = 2
  · refine .step (fun m => ?_) (dstates2_go D hk K0 K1 N.toNat 0 (by omega))
    dsimp only [run_dot_Dot]
    unfold s_dot_Dot_8
    rw [br_neg (by omega), br_pos (by decide), br_eq hk, e3, line2_eq _ (by simp) _ _ _ _ _ _ _ _ _ (by rw [e1]; exact b1), e1, line2_eq _ (by simp) _ _ _ _ _ _ _ _ _ (by rw [e2]; exact b2), e2, ← partSt_zero k ou]
    rfl
  · refine .step (fun m => ?_) (dstates1_go D hk K0 K1 N.toNat 0 (by omega))
    dsimp only [run_dot_Dot]
    unfold s_dot_Dot_8
    rw [br_neg (by omega), br_pos (by decide), br_eq' hk, e3, line1_eq _ (by simp) _ _ _ (by rw [e1]; exact b1), e1, line1_eq _ (by simp) _ _ _ (by rw [e2]; exact b2), e2, ← partSt_zero k ou]
    rfl

theorem dot_eq {R : Type} {k K O N : Int} {nx ou names : List Int} (h1 : okL nx) (h2 : okL ou) (K0 : Int → (List Int) → Option R) (K1 : Int → (List Int) → Option R) :
    l_dot_Dot k K O N nx ou names K0 K1 = if dotE k K O N nx ou names = 0 then K1 0 (dotT k K N nx ou names) else K0 (dotE k K O N nx ou names) [] := by
  unfold l_dot_Dot
  by_cases c1 : (checkR k K O N nx ou).2 = 0
  · have F := checkR_fine.1 c1
    by_cases c2 : (names.length : Int) = K
    · have e : dotE k K O N nx ou names = if ∀ c ∈ names, labOk c then 0 else 20 := by
        unfold dotE
        rw [if_neg (by simpa using c1), if_neg (by simpa using c2)]
      refine evl_eq (.same (G := fun m => (run_dot_Dot K0 K1 m).1 names K ((0 : Nat) : Int) k K O N nx ou (fillL names 0)) (fun m => ?_) ?_)
      · unfold e_dot_Dot
        rw [check_eq _ _ _ _ _ _ h1.1 h2.1, checkS_eq h1 h2]
        have := F.fK
        rw [br_ne' c1, br_ne' c2, br_pos (by omega), fillL_zero, ← c2]
        rfl
      · by_cases c3 : ∀ c ∈ names, labOk c
        · rw [e, if_pos c3, if_pos rfl]
          exact dlabels_go c2 F.fK c3 K0 K1 (dmid_go ⟨F, c2, c3⟩ K0 K1) names.length 0 (by omega)
        · rw [e, if_neg c3, if_neg (by decide)]
          exact dlabels_bad c2 F.fK K0 K1 names.length 0 (by omega) (by rw [List.drop_zero]; exact c3)
    · have e : dotE k K O N nx ou names = 1 := by
        unfold dotE
        rw [if_neg (by simpa using c1), if_pos c2]
      refine evl_eq (.now fun m => ?_)
      unfold e_dot_Dot
      rw [check_eq _ _ _ _ _ _ h1.1 h2.1, checkS_eq h1 h2, br_ne' c1, br_ne c2, e, if_neg (by decide)]
  · have e : dotE k K O N nx ou names = (checkR k K O N nx ou).2 := by
      unfold dotE
      rw [if_pos c1]
    refine evl_eq (.now fun m => ?_)
    unfold e_dot_Dot
    rw [check_eq _ _ _ _ _ _ h1.1 h2.1, checkS_eq h1 h2, br_ne c1, e, if_neg c1]

abbrev LT_tutorlaw09_num := {R : Type} → Int → (Int → Option R) → Option R
/-- tutor/tutorlaw09.num -/
def l_tutorlaw09_num {R : Type} (e : Int) (K0 : Int → Option R) : Option R :=
  K0 e

abbrev LT_tutorlaw09_live := {R : Type} → (Bool → Option R) → Option R
/-- tutor/tutorlaw09.live -/
def l_tutorlaw09_live {R : Type}  (K0 : Bool → Option R) : Option R :=
  l_dot_Dot 1 1 2 1 [0] [1] [97]
   (fun r1 r2 =>
    l_tutorlaw09_num r1
     (fun r3 =>
      bi (r3 == 0)
       (K0 ((ofBts r2).toList == (ByteArray.mk #[100, 105, 103, 114, 97, 112, 104, 32, 109, 32, 123, 10, 32, 32, 114, 97, 110, 107, 100, 105, 114, 61, 76, 82, 10, 32, 32, 115, 116, 97, 114, 116, 32, 91, 115, 104, 97, 112, 101, 61, 112, 111, 105, 110, 116, 93, 10, 32, 32, 48, 32, 91, 115, 104, 97, 112, 101, 61, 100, 111, 117, 98, 108, 101, 99, 105, 114, 99, 108, 101, 93, 10, 32, 32, 115, 116, 97, 114, 116, 32, 45, 62, 32, 48, 10, 32, 32, 48, 32, 45, 62, 32, 48, 32, 91, 108, 97, 98, 101, 108, 61, 34, 97, 34, 93, 10, 125, 10]).toList))
       (K0 false)))
   (fun r4 r5 =>
    l_tutorlaw09_num r4
     (fun r6 =>
      bi (r6 == 0)
       (K0 ((ofBts r5).toList == (ByteArray.mk #[100, 105, 103, 114, 97, 112, 104, 32, 109, 32, 123, 10, 32, 32, 114, 97, 110, 107, 100, 105, 114, 61, 76, 82, 10, 32, 32, 115, 116, 97, 114, 116, 32, 91, 115, 104, 97, 112, 101, 61, 112, 111, 105, 110, 116, 93, 10, 32, 32, 48, 32, 91, 115, 104, 97, 112, 101, 61, 100, 111, 117, 98, 108, 101, 99, 105, 114, 99, 108, 101, 93, 10, 32, 32, 115, 116, 97, 114, 116, 32, 45, 62, 32, 48, 10, 32, 32, 48, 32, 45, 62, 32, 48, 32, 91, 108, 97, 98, 101, 108, 61, 34, 97, 34, 93, 10, 125, 10]).toList))
       (K0 false)))

theorem live09 {R : Type} (K0 : Bool → Option R) : l_tutorlaw09_live K0 = K0 true := by
  unfold l_tutorlaw09_live
  rw [dot_eq (by decide) (by decide), if_pos (show dotE 1 1 2 1 [0] [1] [97] = 0 by decide)]
  try dsimp only [l_tutorlaw09_num]
  rw [br_eq rfl, str_eq]
  exact congrArg K0 (by kernel_rfl)

abbrev LT_tutorref08_Same := {R : Type} → (List Int) → (List Int) → (Bool → Option R) → Option R
/-- tutor/tutorref08.Same -/
def l_tutorref08_Same {R : Type} (a b : List Int) (K0 : Bool → Option R) : Option R :=
  K0 ((ofBts a).toList == (ofBts b).toList)

theorem sameB_eq {R : Type} (a : List Int) (K0 : Bool → Option R) : l_tutorref08_Same a a K0 = K0 true := by
  unfold l_tutorref08_Same
  rw [beq_self_eq_true]


abbrev LT_tutorref01_Same := {R : Type} → (List Int) → (List Int) → (Bool → Option R) → Option R
abbrev GT_tutorref01_Same_4 (R : Type) := (List Int) → (List Int) → Int → Option R
/-- tutor/tutorref01.Same -/
def s_tutorref01_Same_4 {R : Type} (g27_4 : GT_tutorref01_Same_4 R) (K0 : Bool → Option R) (a b : List Int) (i : Int) : Option R :=
  bi (decide (i < (a.length : Int)))
   (bi (decide (0 ≤ i ∧ i < ((a.length : Nat) : Int)))
    (bi (decide (0 ≤ i ∧ i < ((b.length : Nat) : Int)))
     (bi ((a.getD i.toNat 0) != (b.getD i.toNat 0))
      (K0 false)
      (g27_4 a b (IntKind.i64.wrap (i + 1))))
     none)
    none)
   (K0 true)

/-- tutor/tutorref01.Same -/
def e_tutorref01_Same {R : Type} (g27_4 : GT_tutorref01_Same_4 R) (K0 : Bool → Option R) (a b : List Int) : Option R :=
  bi ((a.length : Int) != (b.length : Int))
   (K0 false)
   (g27_4 a b 0)

def run_tutorref01_Same {R : Type} (K0 : Bool → Option R) : Nat → (List Int) → (List Int) → Int → Option R
  | 0 => fun _ _ _ => none
  | n + 1 => s_tutorref01_Same_4 (run_tutorref01_Same K0 n) K0

def l_tutorref01_Same {R : Type} (a : List Int) (b : List Int) (K0 : Bool → Option R) : Option R := bi (decide (short a)) (K0 (decide (a = b))) none

theorem findP_zip {a b : List Int} (hl : a.length = b.length) : findP (fun i => a.getD i 0 != b.getD i 0) (List.range a.length) = none ↔ a = b := by
  rw [findP_none]
  constructor
  · intro h
    refine List.ext_getElem hl fun i h1 h2 => ?_
    have := h i (by simpa using h1)
    rw [getD_of 0 h1, getD_of 0 h2] at this
    simpa using this
  · rintro rfl i _
    simp

theorem ok_tutorref01_Same {R : Type} (a : List Int) (b : List Int) (K0 : Bool → Option R) {r : R} (h : l_tutorref01_Same a b K0 = some r) : ∃ fuel, e_tutorref01_Same (run_tutorref01_Same K0 fuel) K0 a b = some r := by
  unfold l_tutorref01_Same at h
  rcases bi_some h with ⟨hs, h⟩ | ⟨_, h⟩
  · have hs : a.length < 4611686018427387904 := of_decide_eq_true hs
    refine ⟨a.length + 1, ?_⟩
    rw [← h]
    unfold e_tutorref01_Same
    by_cases hl : a.length = b.length
    · rw [br_ne' (by omega)]
      have key := scan_all (F := fun m i => run_tutorref01_Same K0 m a b (i : Int)) (fun i => a.getD i 0 != b.getD i 0) (l := List.range a.length) (A := fun i => K0 false) (B := K0 true)
        (fun m => by
          show s_tutorref01_Same_4 _ _ _ _ _ = _
          unfold s_tutorref01_Same_4
          rw [List.length_range, br_neg (by omega)])
        (fun m i hi => by
          rw [List.length_range] at hi
          show s_tutorref01_Same_4 _ _ _ _ _ = _
          unfold s_tutorref01_Same_4
          rw [br_pos (by omega), br_pos (by omega), br_pos (by omega), br_if, Int.toNat_natCast, wr _ (by omega) (by omega), List.getElem_range]
          rfl)
      rw [List.length_range] at key
      refine key.trans ?_
      by_cases e : a = b
      · rw [(findP_zip hl).2 e]
        simp [e]
      · have : findP (fun i => a.getD i 0 != b.getD i 0) (List.range a.length) ≠ none := fun h => e ((findP_zip hl).1 h)
        cases hf : findP (fun i => a.getD i 0 != b.getD i 0) (List.range a.length) with
        | none => exact absurd hf this
        | some j => simp [e]
    · rw [br_ne (by omega)]
      have e : a ≠ b := fun e => hl (by rw [e])
      simp [e]
  · cases h

theorem same_eq {R : Type} {a b : List Int} (h : short a) (K0 : Bool → Option R) : l_tutorref01_Same a b K0 = K0 (decide (a = b)) := by
  unfold l_tutorref01_Same
  rw [br_pos h]

abbrev LT_tutorref03_Same := {R : Type} → Int → Int → Int → Int → (List Int) → (List Int) → Int → Int → Int → Int → (List Int) → (List Int) → (Bool → Option R) → Option R
/-- tutor/tutorref03.Same -/
def l_tutorref03_Same {R : Type} (a a_1 a_2 a_3 : Int) (a_4 a_5 : List Int) (b b_1 b_2 b_3 : Int) (b_4 b_5 : List Int) (K0 : Bool → Option R) : Option R :=
  bi (a == b)
   (bi (a_1 == b_1)
    (bi (a_2 == b_2)
     (bi (a_3 == b_3)
      (l_tutorref01_Same a_4 b_4
       (fun r1 =>
        bi r1
         (l_tutorref01_Same a_5 b_5
          (fun r2 =>
           K0 r2))
         (K0 false)))
      (K0 false))
     (K0 false))
    (K0 false))
   (K0 false)

theorem sameM_eq {R : Type} {k K O N : Int} {nx ou : List Int} (h1 : short nx) (h2 : short ou) (K0 : Bool → Option R) :
    l_tutorref03_Same k K O N nx ou k K O N nx ou K0 = K0 true := by
  unfold l_tutorref03_Same
  rw [br_eq rfl, br_eq rfl, br_eq rfl, br_eq rfl, same_eq h1]
  try dsimp only
  rw [br_pos rfl, same_eq h2]
  simp

abbrev LT_tutorlaw09_DotApart := {R : Type} → Int → Int → Int → Int → (List Int) → (List Int) → Int → Int → Int → Int → (List Int) → (List Int) → (List Int) → (Bool → Option R) → Option R
/-- tutor/tutorlaw09.DotApart -/
def l_tutorlaw09_DotApart {R : Type} (a a_1 a_2 a_3 : Int) (a_4 a_5 : List Int) (b b_1 b_2 b_3 : Int) (b_4 b_5 names : List Int) (K0 : Bool → Option R) : Option R :=
  l_tutorref03_Big a a_1 a_2 a_3 a_4 a_5 100
   (fun r1 =>
    bi r1
     (l_tutorlaw09_live
      (fun r2 =>
       K0 r2))
     (l_tutorref03_Big b b_1 b_2 b_3 b_4 b_5 100
      (fun r3 =>
       bi r3
        (l_tutorlaw09_live
         (fun r4 =>
          K0 r4))
        (bi (decide ((names.length : Int) > 1000))
         (l_tutorlaw09_live
          (fun r5 =>
           K0 r5))
         (l_dot_Dot a a_1 a_2 a_3 a_4 a_5 names
          (fun r6 r7 =>
           l_dot_Dot b b_1 b_2 b_3 b_4 b_5 names
            (fun r8 r9 =>
             l_tutorlaw09_num r6
              (fun r10 =>
               bi (r10 != 0)
                (l_tutorlaw09_live
                 (fun r11 =>
                  K0 r11))
                (l_tutorlaw09_num r8
                 (fun r12 =>
                  bi (r12 != 0)
                   (l_tutorlaw09_live
                    (fun r13 =>
                     K0 r13))
                   (bi (a != b)
                    (l_tutorlaw09_live
                     (fun r14 =>
                      K0 r14))
                    (l_tutorref08_Same r7 r9
                     (fun r15 =>
                      l_tutorref03_Same a a_1 a_2 a_3 a_4 a_5 b b_1 a_2 b_3 b_4 b_5
                       (fun r16 =>
                        bi (r15 == r16)
                         (l_tutorlaw09_live
                          (fun r17 =>
                           K0 r17))
                         (K0 false)))))))))
            (fun r18 r19 =>
             l_tutorlaw09_num r6
              (fun r20 =>
               bi (r20 != 0)
                (l_tutorlaw09_live
                 (fun r21 =>
                  K0 r21))
                (l_tutorlaw09_num r18
                 (fun r22 =>
                  bi (r22 != 0)
                   (l_tutorlaw09_live
                    (fun r23 =>
                     K0 r23))
                   (bi (a != b)
                    (l_tutorlaw09_live
                     (fun r24 =>
                      K0 r24))
                    (l_tutorref08_Same r7 r19
                     (fun r25 =>
                      l_tutorref03_Same a a_1 a_2 a_3 a_4 a_5 b b_1 a_2 b_3 b_4 b_5
                       (fun r26 =>
                        bi (r25 == r26)
                         (l_tutorlaw09_live
                          (fun r27 =>
                           K0 r27))
                         (K0 false))))))))))
          (fun r28 r29 =>
           l_dot_Dot b b_1 b_2 b_3 b_4 b_5 names
            (fun r30 r31 =>
             l_tutorlaw09_num r28
              (fun r32 =>
               bi (r32 != 0)
                (l_tutorlaw09_live
                 (fun r33 =>
                  K0 r33))
                (l_tutorlaw09_num r30
                 (fun r34 =>
                  bi (r34 != 0)
                   (l_tutorlaw09_live
                    (fun r35 =>
                     K0 r35))
                   (bi (a != b)
                    (l_tutorlaw09_live
                     (fun r36 =>
                      K0 r36))
                    (l_tutorref08_Same r29 r31
                     (fun r37 =>
                      l_tutorref03_Same a a_1 a_2 a_3 a_4 a_5 b b_1 a_2 b_3 b_4 b_5
                       (fun r38 =>
                        bi (r37 == r38)
                         (l_tutorlaw09_live
                          (fun r39 =>
                           K0 r39))
                         (K0 false)))))))))
            (fun r40 r41 =>
             l_tutorlaw09_num r28
              (fun r42 =>
               bi (r42 != 0)
                (l_tutorlaw09_live
                 (fun r43 =>
                  K0 r43))
                (l_tutorlaw09_num r40
                 (fun r44 =>
                  bi (r44 != 0)
                   (l_tutorlaw09_live
                    (fun r45 =>
                     K0 r45))
                   (bi (a != b)
                    (l_tutorlaw09_live
                     (fun r46 =>
                      K0 r46))
                    (l_tutorref08_Same r29 r41
                     (fun r47 =>
                      l_tutorref03_Same a a_1 a_2 a_3 a_4 a_5 b b_1 a_2 b_3 b_4 b_5
                       (fun r48 =>
                        bi (r47 == r48)
                         (l_tutorlaw09_live
                          (fun r49 =>
                           K0 r49))
                         (K0 false)))))))))))))))

theorem sameM_ne {R : Type} {k K O N k' K' O' N' : Int} {nx ou nx' ou' : List Int} (h : ¬ (k = k' ∧ K = K' ∧ O = O' ∧ N = N' ∧ nx = nx' ∧ ou = ou')) (h1 : short nx) (h2 : short ou) (K0 : Bool → Option R) :
    l_tutorref03_Same k K O N nx ou k' K' O' N' nx' ou' K0 = K0 false := by
  unfold l_tutorref03_Same
  by_cases c1 : k = k'
  · rw [br_eq c1]
    by_cases c2 : K = K'
    · rw [br_eq c2]
      by_cases c3 : O = O'
      · rw [br_eq c3]
        by_cases c4 : N = N'
        · rw [br_eq c4, same_eq h1]
          try dsimp only
          by_cases c5 : nx = nx'
          · rw [br_pos c5, same_eq h2]
            try dsimp only
            rw [decide_eq_false (fun c6 => h ⟨c1, c2, c3, c4, c5, c6⟩)]
          · rw [br_neg c5]
        · rw [br_eq' c4]
      · rw [br_eq' c3]
    · rw [br_eq' c2]
  · rw [br_eq' c1]

theorem law_tutorlaw09_DotApart {R : Type} (k K O N : Int) (nx ou : List Int) (k' K' O' N' : Int) (nx' ou' names : List Int) (K0 : Bool → Option R) (hk : inI k) (hK : inI K) (hO : inI O) (hN : inI N) (hn : okW nx) (ho : okW ou)
    (hk' : inI k') (hK' : inI K') (hO' : inI O') (hN' : inI N') (hn' : okW nx') (ho' : okW ou')
    (hm : names.length ≤ 140737488351232 ∧ ∀ c ∈ names, (Lit.int .i32 c).wf = true) : l_tutorlaw09_DotApart k K O N nx ou k' K' O' N' nx' ou' names K0 = K0 true := by
  unfold l_tutorlaw09_DotApart
  by_cases hb : N ≤ 100 ∧ nx.length ≤ 70000 ∧ ou.length ≤ 70000
  · rw [big_f hb, br_ff]
    by_cases hb' : N' ≤ 100 ∧ nx'.length ≤ 70000 ∧ ou'.length ≤ 70000
    · rw [big_f hb', br_ff]
      have o1 : okL nx := hn.okL (by unfold short; omega)
      have o2 : okL ou := ho.okL (by unfold short; omega)
      have o1' : okL nx' := hn'.okL (by unfold short; omega)
      have o2' : okL ou' := ho'.okL (by unfold short; omega)
      by_cases hl : (names.length : Int) > 1000
      · rw [br_pos hl, live09]
      rw [br_neg hl, dot_eq o1 o2]
      by_cases hd : dotE k K O N nx ou names = 0
      · rw [if_pos hd]
        try dsimp only
        rw [dot_eq o1' o2']
        by_cases hd' : dotE k' K' O' N' nx' ou' names = 0
        · rw [if_pos hd']
          try dsimp only [l_tutorlaw09_num]
          rw [br_ne' rfl, br_ne' rfl]
          by_cases hkk : k = k'
          · subst hkk
            rw [br_ne' rfl]
            have D := dotE_zero.1 hd
            have D' := dotE_zero.1 hd'
            have eK : K = K' := by rw [← D.len, ← D'.len]
            subst eK
            by_cases he : N = N' ∧ nx = nx' ∧ ou = ou'
            · obtain ⟨rfl, rfl, rfl⟩ := he
              rw [sameB_eq, sameM_eq o1.1 o2.1]
              try dsimp only
              rw [beq_self_eq_true, br_tt, live09]
            · have hne : ((ofBts (dotT k K N nx ou names)).toList == (ofBts (dotT k K N' nx' ou' names)).toList) = false := by
                rw [str_eq, decide_eq_false]
                intro q
                rw [bts_ofBts (l := dotT k K N nx ou names) (textS_B8 (linesEd_B8 D (Nat.le_refl _))), bts_ofBts (l := dotT k K N' nx' ou' names) (textS_B8 (linesEd_B8 D' (Nat.le_refl _)))] at q
                exact he (dot_apart D D' q)
              unfold l_tutorref08_Same
              try dsimp only
              rw [sameM_ne (fun q => he ⟨q.2.2.2.1, q.2.2.2.2.1, q.2.2.2.2.2⟩) o1.1 o2.1]
              try dsimp only
              rw [hne, beq_self_eq_true, br_tt, live09]
          · rw [br_ne hkk, live09]
        · rw [if_neg hd']
          try dsimp only [l_tutorlaw09_num]
          rw [br_ne' rfl, br_ne hd', live09]
      · rw [if_neg hd]
        try dsimp only
        rw [dot_eq o1' o2']
        by_cases hd' : dotE k' K' O' N' nx' ou' names = 0
        · rw [if_pos hd']
          try dsimp only [l_tutorlaw09_num]
          rw [br_ne hd, live09]
        · rw [if_neg hd']
          try dsimp only [l_tutorlaw09_num]
          rw [br_ne hd, live09]
    · rw [big_t hb', br_tt, live09]
  · rw [big_t hb, br_tt, live09]

end
end Go.Ev
