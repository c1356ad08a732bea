/- Functions of the program, as trees of tests over numbers and lists; no program in sight. -/
import Derived.Test.YtghgpadmkdfanaaDoorEvMach
import Derived.Test.YtghgpadmkdfanaaDoorEvNum
import Derived.Test.YtghgpadmkdfanaaDoorEvDot
import Derived.Test.YtghgpadmkdfanaaDoorEvDotA
namespace Go.Ev
noncomputable section
set_option linter.unusedVariables false
set_option linter.unusedSimpArgs false
set_option maxRecDepth 100000
set_option maxHeartbeats 4000000

abbrev LT_tutorref03_Big := {R : Type} → Int → Int → Int → Int → (List Int) → (List Int) → Int → (Bool → Option R) → Option R
/-- tutor/tutorref03.Big -/
def l_tutorref03_Big {R : Type} (m m_1 m_2 m_3 : Int) (m_4 m_5 : List Int) (states : Int) (K0 : Bool → Option R) : Option R :=
  bi (decide (m_3 > states))
   (K0 true)
   (bi (decide ((m_4.length : Int) > 70000))
    (K0 true)
    (K0 (decide ((m_5.length : Int) > 70000))))

theorem big_cases {R : Type} (k K O N : Int) (nx ou : List Int) (states : Int) (K0 : Bool → Option R) :
    (l_tutorref03_Big k K O N nx ou states K0 = K0 true) ∨ (N ≤ states ∧ nx.length ≤ 70000 ∧ ou.length ≤ 70000 ∧ l_tutorref03_Big k K O N nx ou states K0 = K0 false) := by
  unfold l_tutorref03_Big
  by_cases h1 : N > states
  · exact .inl (by rw [br_pos h1])
  rw [br_neg h1]
  by_cases h2 : (nx.length : Int) > 70000
  · exact .inl (by rw [br_pos h2])
  rw [br_neg h2]
  by_cases h3 : (ou.length : Int) > 70000
  · exact .inl (by rw [decide_eq_true h3])
  · exact .inr ⟨by omega, by omega, by omega, by rw [decide_eq_false h3]⟩
theorem big_f {R : Type} {k K O N : Int} {nx ou : List Int} {states : Int} (h : N ≤ states ∧ nx.length ≤ 70000 ∧ ou.length ≤ 70000) (K0 : Bool → Option R) : l_tutorref03_Big k K O N nx ou states K0 = K0 false := by
  unfold l_tutorref03_Big
  rw [br_neg (by omega), br_neg (by omega), decide_eq_false (by omega)]
theorem big_t {R : Type} {k K O N : Int} {nx ou : List Int} {states : Int} (h : ¬ (N ≤ states ∧ nx.length ≤ 70000 ∧ ou.length ≤ 70000)) (K0 : Bool → Option R) : l_tutorref03_Big k K O N nx ou states K0 = K0 true := by
  rcases big_cases k K O N nx ou states K0 with h' | ⟨a, b, c, _⟩
  · exact h'
  · exact absurd ⟨a, b, c⟩ h

abbrev LT_machine_says := {R : Type} → Int → Int → Int → Int → (List Int) → (List Int) → (Int → Option R) → Option R
/-- tutor/machine.says -/
def l_machine_says {R : Type} (m m_1 m_2 m_3 : Int) (m_4 m_5 : List Int) (K0 : Int → Option R) : Option R :=
  bi (m == 1)
   (K0 m_3)
   (K0 (IntKind.i64.wrap (m_3 * m_1)))

abbrev LT_machine_head := {R : Type} → Int → Int → Int → Int → (List Int) → (List Int) → (Int → Option R) → Option R
/-- tutor/machine.head -/
def l_machine_head {R : Type} (m m_1 m_2 m_3 : Int) (m_4 m_5 : List Int) (K0 : Int → Option R) : Option R :=
  bi (m != 1)
   (bi (m != 2)
    (K0 30)
    (bi (decide (m_1 < 1))
     (K0 1)
     (bi (decide (m_1 > 64))
      (K0 1)
      (bi (m == 1)
       (bi (m_2 != 2)
        (K0 33)
        (bi (decide (m_2 < 1))
         (K0 33)
         (bi (decide (m_2 > 64))
          (K0 33)
          (bi (decide (m_3 < 1))
           (K0 3)
           (bi (decide (m_3 > 1024))
            (K0 3)
            (bi ((m_4.length : Int) != (IntKind.i64.wrap (m_3 * m_1)))
             (K0 31)
             (l_machine_says m m_1 m_2 m_3 m_4 m_5
              (fun r1 =>
               bi ((m_5.length : Int) != r1)
                (K0 31)
                (K0 0)))))))))
       (bi (decide (m_2 < 1))
        (K0 33)
        (bi (decide (m_2 > 64))
         (K0 33)
         (bi (decide (m_3 < 1))
          (K0 3)
          (bi (decide (m_3 > 1024))
           (K0 3)
           (bi ((m_4.length : Int) != (IntKind.i64.wrap (m_3 * m_1)))
            (K0 31)
            (l_machine_says m m_1 m_2 m_3 m_4 m_5
             (fun r2 =>
              bi ((m_5.length : Int) != r2)
               (K0 31)
               (K0 0))))))))))))
   (bi (decide (m_1 < 1))
    (K0 1)
    (bi (decide (m_1 > 64))
     (K0 1)
     (bi (m == 1)
      (bi (m_2 != 2)
       (K0 33)
       (bi (decide (m_2 < 1))
        (K0 33)
        (bi (decide (m_2 > 64))
         (K0 33)
         (bi (decide (m_3 < 1))
          (K0 3)
          (bi (decide (m_3 > 1024))
           (K0 3)
           (bi ((m_4.length : Int) != (IntKind.i64.wrap (m_3 * m_1)))
            (K0 31)
            (l_machine_says m m_1 m_2 m_3 m_4 m_5
             (fun r3 =>
              bi ((m_5.length : Int) != r3)
               (K0 31)
               (K0 0)))))))))
      (bi (decide (m_2 < 1))
       (K0 33)
       (bi (decide (m_2 > 64))
        (K0 33)
        (bi (decide (m_3 < 1))
         (K0 3)
         (bi (decide (m_3 > 1024))
          (K0 3)
          (bi ((m_4.length : Int) != (IntKind.i64.wrap (m_3 * m_1)))
           (K0 31)
           (l_machine_says m m_1 m_2 m_3 m_4 m_5
            (fun r4 =>
             bi ((m_5.length : Int) != r4)
              (K0 31)
              (K0 0)))))))))))

theorem head_eq {R : Type} (k K O N : Int) (nx ou : List Int) (K0 : Int → Option R) : l_machine_head k K O N nx ou K0 = K0 (headS k K O N nx ou) := by
  unfold l_machine_head l_machine_says headS
  simp only [br_if, bne_iff_ne, beq_iff_eq, decide_eq_true_eq, ne_eq]
  by_cases hb : (1 ≤ N ∧ N ≤ 1024) ∧ 1 ≤ K ∧ K ≤ 64
  · have := mulK hb
    rw [wr (N * K) (by omega) (by omega)]
    repeat' (refine ite_l (fun _ => ?_) (fun _ => ?_))
    all_goals
      refine congrArg K0 ?_
      repeat' (refine ite_r (fun _ => ?_) (fun _ => ?_))
      all_goals omega
  · repeat' (refine ite_l (fun _ => ?_) (fun _ => ?_))
    all_goals
      refine congrArg K0 ?_
      repeat' (refine ite_r (fun _ => ?_) (fun _ => ?_))
      all_goals omega

abbrev LT_machine_beyond := {R : Type} → (List Int) → Int → (Int → Option R) → Option R
abbrev GT_machine_beyond_2 (R : Type) := (List Int) → Int → Int → Int → Option R
/-- tutor/machine.beyond -/
def s_machine_beyond_2 {R : Type} (g29_2 : GT_machine_beyond_2 R) (K0 : Int → Option R) (l : List Int) (n x7 x8 : Int) : Option R :=
  bi (decide (x8 < x7))
   (bi (decide (0 ≤ x8 ∧ x8 < ((l.length : Nat) : Int)))
    (bi (decide ((IntKind.u64.wrap (l.getD x8.toNat 0)) ≥ (IntKind.u64.wrap n)))
     (K0 x8)
     (g29_2 l n x7 (IntKind.i64.wrap (x8 + 1))))
    none)
   (K0 (-1))

/-- tutor/machine.beyond -/
def e_machine_beyond {R : Type} (g29_2 : GT_machine_beyond_2 R) (K0 : Int → Option R) (l : List Int) (n : Int) : Option R :=
  g29_2 l n (l.length : Int) 0

def run_machine_beyond {R : Type} (K0 : Int → Option R) : Nat → (List Int) → Int → Int → Int → Option R
  | 0 => fun _ _ _ _ => none
  | n + 1 => s_machine_beyond_2 (run_machine_beyond K0 n) K0

def l_machine_beyond {R : Type} (l : List Int) (n : Int) (K0 : Int → Option R) : Option R := bi (decide (short l)) (K0 (beyondS n l)) none

theorem ok_machine_beyond {R : Type} (l : List Int) (n : Int) (K0 : Int → Option R) {r : R} (h : l_machine_beyond l n K0 = some r) : ∃ fuel, e_machine_beyond (run_machine_beyond K0 fuel) K0 l n = some r := by
  unfold l_machine_beyond at h
  rcases bi_some h with ⟨hs, h⟩ | ⟨_, h⟩
  · have hs : l.length < 4611686018427387904 := of_decide_eq_true hs
    refine ⟨l.length + 1, ?_⟩
    rw [← h]
    have key := scan_all (F := fun m i => run_machine_beyond K0 m l n (l.length : Int) (i : Int)) (bad n) (l := l) (A := fun i => K0 i) (B := K0 (-1))
      (fun m => by
        show s_machine_beyond_2 _ _ _ _ _ _ = _
        unfold s_machine_beyond_2
        rw [br_neg (by omega)])
      (fun m i hi => by
        show s_machine_beyond_2 _ _ _ _ _ _ = _
        unfold s_machine_beyond_2
        rw [br_pos (by omega), br_pos (by omega), br_if, Int.toNat_natCast, getD_of 0 hi, wr _ (by omega) (by omega)]
        rfl)
    unfold e_machine_beyond beyondS
    refine key.trans ?_
    cases findP (bad n) l <;> rfl
  · cases h

abbrev LT_machine_Check := {R : Type} → Int → Int → Int → Int → (List Int) → (List Int) → (Int → Int → Option R) → Option R
/-- tutor/machine.Check -/
def l_machine_Check {R : Type} (m m_1 m_2 m_3 : Int) (m_4 m_5 : List Int) (K0 : Int → Int → Option R) : Option R :=
  l_machine_head m m_1 m_2 m_3 m_4 m_5
   (fun r1 =>
    bi (r1 != 0)
     (K0 0 r1)
     (l_machine_beyond m_4 m_3
      (fun r2 =>
       bi (decide (r2 ≥ 0))
        (K0 r2 32)
        (l_machine_beyond m_5 m_2
         (fun r3 =>
          bi (decide (r3 ≥ 0))
           (K0 r3 33)
           (K0 0 0))))))

theorem check_eq {R : Type} (k K O N : Int) (nx ou : List Int) (h1 : short nx) (h2 : short ou) (K0 : Int → Int → Option R) :
    l_machine_Check k K O N nx ou K0 = K0 (checkS k K O N nx ou).1 (checkS k K O N nx ou).2 := by
  unfold l_machine_Check checkS l_machine_beyond beyondS
  rw [head_eq]
  by_cases h : headS k K O N nx ou = 0
  · rw [br_ne' h, if_neg (by simpa using h), br_pos h1]
    cases hf : findP (bad N) nx with
    | some i => simp only [br_pos (show ((i : Nat) : Int) ≥ 0 by omega)]
    | none =>
      simp only [br_neg (show ¬ ((-1 : Int) ≥ 0) by omega), br_pos h2]
      cases hg : findP (bad O) ou with
      | some i => simp only [br_pos (show ((i : Nat) : Int) ≥ 0 by omega)]
      | none => simp only [br_neg (show ¬ ((-1 : Int) ≥ 0) by omega)]
  · rw [br_ne h, if_pos (by simpa using h)]

abbrev LT_unicode_utf8_ValidRune := {R : Type} → Int → (Bool → Option R) → Option R
/-- unicode/utf8.ValidRune -/
def l_unicode_utf8_ValidRune {R : Type} (r : Int) (K0 : Bool → Option R) : Option R :=
  bi (decide (0 ≤ r))
   (bi (decide (r < 55296))
    (K0 true)
    (bi (decide (57343 < r))
     (bi (decide (r ≤ 1114111))
      (K0 true)
      (K0 false))
     (K0 false)))
   (bi (decide (57343 < r))
    (bi (decide (r ≤ 1114111))
     (K0 true)
     (K0 false))
    (K0 false))

theorem vrune_eq {R : Type} (r : Int) (K0 : Bool → Option R) : l_unicode_utf8_ValidRune r K0 = K0 (decide (runeOk r)) := by
  unfold l_unicode_utf8_ValidRune
  simp only [br_if, decide_eq_true_eq]
  by_cases h : runeOk r
  · rw [decide_eq_true h]
    unfold runeOk at h
    repeat' (first | rfl | refine ite_l (fun _ => ?_) (fun _ => ?_))
    all_goals (exfalso; omega)
  · rw [decide_eq_false h]
    unfold runeOk at h
    repeat' (first | rfl | refine ite_l (fun _ => ?_) (fun _ => ?_))
    all_goals (exfalso; omega)

abbrev LT_dot_Label := {R : Type} → (List Int) → Int → (ByteArray → Int → Option R) → Option R
/-- tutor/dot.Label -/
def l_dot_Label {R : Type} (names : List Int) (x : Int) (K0 : ByteArray → Int → Option R) : Option R :=
  bi (decide (x < 0))
   (K0 ByteArray.empty 10)
   (bi (decide (x ≥ (names.length : Int)))
    (K0 ByteArray.empty 10)
    (bi (decide (0 ≤ x ∧ x < ((names.length : Nat) : Int)))
     (l_unicode_utf8_ValidRune (names.getD x.toNat 0)
      (fun r1 =>
       bi (!r1)
        (K0 ByteArray.empty 20)
        (bi (decide ((names.getD x.toNat 0) < 33))
         (K0 ByteArray.empty 20)
         (bi ((names.getD x.toNat 0) == 127)
          (K0 ByteArray.empty 20)
          (bi ((names.getD x.toNat 0) == 34)
           (bi (catOk (ByteArray.mk #[92]) (Utf8.encode (names.getD x.toNat 0)))
            (K0 ((ByteArray.mk #[92]) ++ (Utf8.encode (names.getD x.toNat 0))) 0)
            none)
           (bi ((names.getD x.toNat 0) == 92)
            (bi (catOk (ByteArray.mk #[92]) (Utf8.encode (names.getD x.toNat 0)))
             (K0 ((ByteArray.mk #[92]) ++ (Utf8.encode (names.getD x.toNat 0))) 0)
             none)
            (K0 (Utf8.encode (names.getD x.toNat 0)) 0)))))))
     none))

theorem label_eq {R : Type} (names : List Int) (x : Int) (K0 : ByteArray → Int → Option R) : l_dot_Label names x K0 = K0 (labelS names x).1 (labelS names x).2 := by
  unfold l_dot_Label labelS
  by_cases h1 : x < 0
  · rw [br_pos h1, if_pos (.inl h1)]
  by_cases h2 : x ≥ names.length
  · rw [br_neg h1, br_pos h2, if_pos (.inr h2)]
  rw [br_neg h1, br_neg h2, if_neg (by omega), br_pos (by omega), vrune_eq]
  try dsimp only
  generalize names.getD x.toNat 0 = c
  by_cases h3 : runeOk c
  · rw [decide_eq_true h3, show (!true) = false from rfl, br_ff]
    have hsz : (Utf8.encode c).size ≤ 4 := by rw [← bts_size, enc_bts h3]; exact (putU_len c).2
    have hb : (ByteArray.mk #[92]).size = 1 := rfl
    by_cases h4 : c < 33
    · rw [br_pos h4, if_neg (fun h => by unfold labOk at h; omega)]
    · rw [br_neg h4]
      by_cases h5 : c = 127
      · rw [br_eq h5, if_neg (fun h => by unfold labOk at h; omega)]
      · rw [br_eq' h5, if_pos ⟨h3, by omega, h5⟩]
        unfold labB
        by_cases h6 : c = 34
        · rw [br_eq h6, br_cat (by omega), if_pos (.inl h6)]
        · rw [br_eq' h6]
          by_cases h7 : c = 92
          · rw [br_eq h7, br_cat (by omega), if_pos (.inr h7)]
          · rw [br_eq' h7, if_neg (by omega)]
  · rw [decide_eq_false h3, show (!false) = true from rfl, br_tt, if_neg (fun h => h3 h.1)]

abbrev LT_dot_pen_line_fdot_Dot_2 := {R : Type} → (List ByteArray) → (List Int) → (List ByteArray) → Int → Int → Int → Int → (List Int) → (List Int) → ((List ByteArray) → Int → Int → Int → Int → (List Int) → (List Int) → (List Int) → Option R) → Option R
abbrev GT_dot_pen_line_fdot_Dot_2_2 (R : Type) := (List ByteArray) → Int → Int → (List ByteArray) → Int → Int → Int → Int → (List Int) → (List Int) → (List Int) → Option R
/-- (*tutor/dot.pen).line -/
def s_dot_pen_line_fdot_Dot_2_2 {R : Type} (g20_2 : GT_dot_pen_line_fdot_Dot_2_2 R) (K0 : (List ByteArray) → Int → Int → Int → Int → (List Int) → (List Int) → (List Int) → Option R) (x15 : List ByteArray) (x16 x17 : Int) (o3 : List ByteArray) (o4 o4_1 o4_2 o4_3 : Int) (o4_4 o4_5 o5 : List Int) : Option R :=
  bi (decide (x17 < x16))
   (bi (decide (0 ≤ x17 ∧ x17 < ((x15.length : Nat) : Int)))
    (bi (decide ((o5.length + (bts (x15.getD x17.toNat ByteArray.empty)).length) * 1 ≤ lim))
     (g20_2 x15 x16 (IntKind.i64.wrap (x17 + 1)) o3 o4 o4_1 o4_2 o4_3 o4_4 o4_5 (o5 ++ (bts (x15.getD x17.toNat ByteArray.empty))))
     none)
    none)
   (bi (decide ((o5.length + [10].length) * 1 ≤ lim))
    (K0 o3 o4 o4_1 o4_2 o4_3 o4_4 o4_5 (o5 ++ [10]))
    none)

/-- (*tutor/dot.pen).line -/
def e_dot_pen_line_fdot_Dot_2 {R : Type} (g20_2 : GT_dot_pen_line_fdot_Dot_2_2 R) (K0 : (List ByteArray) → Int → Int → Int → Int → (List Int) → (List Int) → (List Int) → Option R) (l : List ByteArray) (o1 : List Int) (o3 : List ByteArray) (o4 o4_1 o4_2 o4_3 : Int) (o4_4 o4_5 : List Int) : Option R :=
  bi (decide ((o1.length + [32, 32].length) * 1 ≤ lim))
   (g20_2 l (l.length : Int) 0 o3 o4 o4_1 o4_2 o4_3 o4_4 o4_5 (o1 ++ [32, 32]))
   none

def run_dot_pen_line_fdot_Dot_2 {R : Type} (K0 : (List ByteArray) → Int → Int → Int → Int → (List Int) → (List Int) → (List Int) → Option R) : Nat → (List ByteArray) → Int → Int → (List ByteArray) → Int → Int → Int → Int → (List Int) → (List Int) → (List Int) → Option R
  | 0 => fun _ _ _ _ _ _ _ _ _ _ _ => none
  | n + 1 => s_dot_pen_line_fdot_Dot_2_2 (run_dot_pen_line_fdot_Dot_2 K0 n) K0

def l_dot_pen_line_fdot_Dot_2 {R : Type} (l : List ByteArray) (o1 : List Int) (o3 : List ByteArray) (o4 o4_1 o4_2 o4_3 : Int) (o4_4 o4_5 : List Int) (K0 : (List ByteArray) → Int → Int → Int → Int → (List Int) → (List Int) → (List Int) → Option R) : Option R := evl fun fuel => e_dot_pen_line_fdot_Dot_2 (run_dot_pen_line_fdot_Dot_2 K0 fuel) K0 l o1 o3 o4 o4_1 o4_2 o4_3 o4_4 o4_5

theorem ok_dot_pen_line_fdot_Dot_2 {R : Type} (l : List ByteArray) (o1 : List Int) (o3 : List ByteArray) (o4 o4_1 o4_2 o4_3 : Int) (o4_4 o4_5 : List Int) (K0 : (List ByteArray) → Int → Int → Int → Int → (List Int) → (List Int) → (List Int) → Option R) {r : R} (h : l_dot_pen_line_fdot_Dot_2 l o1 o3 o4 o4_1 o4_2 o4_3 o4_4 o4_5 K0 = some r) : ∃ fuel, e_dot_pen_line_fdot_Dot_2 (run_dot_pen_line_fdot_Dot_2 K0 fuel) K0 l o1 o3 o4 o4_1 o4_2 o4_3 o4_4 o4_5 = some r := evl_ok h

theorem line2_go {R : Type} (l : List ByteArray) (hl : l.length ≤ 1000) (o3 : List ByteArray) (k K O N : Int) (nx ou : List Int) (K0 : (List ByteArray) → Int → Int → Int → Int → (List Int) → (List Int) → (List Int) → Option R) : ∀ (d i : Nat) (acc : List Int), i + d = l.length → acc.length + ((l.drop i).map bts).flatten.length + 1 ≤ lim →
    Reach (fun m => run_dot_pen_line_fdot_Dot_2 K0 m l (l.length : Int) (i : Int) o3 k K O N nx ou acc) (K0 o3 k K O N nx ou (acc ++ ((l.drop i).map bts).flatten ++ [10])) := by
  intro d
  induction d with
  | zero =>
    intro i acc hi hb
    refine .now fun m => ?_
    dsimp only [run_dot_pen_line_fdot_Dot_2]
    unfold s_dot_pen_line_fdot_Dot_2_2
    rw [List.drop_of_length_le (by omega)] at hb ⊢
    simp only [List.map_nil, List.flatten_nil, List.length_nil, List.append_nil] at hb ⊢
    rw [br_neg (by omega), br_pos (by simp only [List.length_cons, List.length_nil]; omega)]
  | succ d ih =>
    intro i acc hi hb
    have hil : i < l.length := by omega
    rw [List.drop_eq_getElem_cons hil] at hb ⊢
    simp only [List.map_cons, List.flatten_cons, List.length_append] at hb ⊢
    refine .step (fun m => ?_) ((ih (i + 1) (acc ++ bts l[i]) (by omega) (by rw [List.length_append]; omega)).of_eq (by simp only [List.append_assoc]))
    dsimp only [run_dot_pen_line_fdot_Dot_2]
    unfold s_dot_pen_line_fdot_Dot_2_2
    rw [br_pos (by omega), br_pos (by omega), Int.toNat_natCast, getD_of ByteArray.empty hil, br_pos (by omega), wr _ (by omega) (by omega)]
    rfl

theorem line2_eq {R : Type} (l : List ByteArray) (hl : l.length ≤ 1000) (acc : List Int) (o3 : List ByteArray) (k K O N : Int) (nx ou : List Int) (K0 : (List ByteArray) → Int → Int → Int → Int → (List Int) → (List Int) → (List Int) → Option R) (hb : acc.length + (l.map bts).flatten.length + 3 ≤ lim) :
    l_dot_pen_line_fdot_Dot_2 l acc o3 k K O N nx ou K0 = K0 o3 k K O N nx ou (acc ++ lineS (l.map bts).flatten) := by
  unfold l_dot_pen_line_fdot_Dot_2
  refine evl_eq (.same (G := fun m => run_dot_pen_line_fdot_Dot_2 K0 m l (l.length : Int) ((0 : Nat) : Int) o3 k K O N nx ou (acc ++ [32, 32])) (fun m => ?_) ((line2_go l hl o3 k K O N nx ou K0 l.length 0 (acc ++ [32, 32]) (by omega) (by rw [List.drop_zero, List.length_append]; simp only [List.length_cons, List.length_nil]; omega)).of_eq ?_))
  · unfold e_dot_pen_line_fdot_Dot_2
    rw [br_pos (by simp only [List.length_cons, List.length_nil]; omega)]
    rfl
  · rw [List.drop_zero]
    unfold lineS
    simp only [List.append_assoc]

abbrev LT_dot_pen_line_fdot_Dot_1 := {R : Type} → (List ByteArray) → (List Int) → (List ByteArray) → ((List ByteArray) → (List Int) → Option R) → Option R
abbrev GT_dot_pen_line_fdot_Dot_1_2 (R : Type) := (List ByteArray) → Int → Int → (List ByteArray) → (List Int) → Option R
/-- (*tutor/dot.pen).line -/
def s_dot_pen_line_fdot_Dot_1_2 {R : Type} (g20b_2 : GT_dot_pen_line_fdot_Dot_1_2 R) (K0 : (List ByteArray) → (List Int) → Option R) (x15 : List ByteArray) (x16 x17 : Int) (o3 : List ByteArray) (o4 : List Int) : Option R :=
  bi (decide (x17 < x16))
   (bi (decide (0 ≤ x17 ∧ x17 < ((x15.length : Nat) : Int)))
    (bi (decide ((o4.length + (bts (x15.getD x17.toNat ByteArray.empty)).length) * 1 ≤ lim))
     (g20b_2 x15 x16 (IntKind.i64.wrap (x17 + 1)) o3 (o4 ++ (bts (x15.getD x17.toNat ByteArray.empty))))
     none)
    none)
   (bi (decide ((o4.length + [10].length) * 1 ≤ lim))
    (K0 o3 (o4 ++ [10]))
    none)

/-- (*tutor/dot.pen).line -/
def e_dot_pen_line_fdot_Dot_1 {R : Type} (g20b_2 : GT_dot_pen_line_fdot_Dot_1_2 R) (K0 : (List ByteArray) → (List Int) → Option R) (l : List ByteArray) (o1 : List Int) (o3 : List ByteArray) : Option R :=
  bi (decide ((o1.length + [32, 32].length) * 1 ≤ lim))
   (g20b_2 l (l.length : Int) 0 o3 (o1 ++ [32, 32]))
   none

def run_dot_pen_line_fdot_Dot_1 {R : Type} (K0 : (List ByteArray) → (List Int) → Option R) : Nat → (List ByteArray) → Int → Int → (List ByteArray) → (List Int) → Option R
  | 0 => fun _ _ _ _ _ => none
  | n + 1 => s_dot_pen_line_fdot_Dot_1_2 (run_dot_pen_line_fdot_Dot_1 K0 n) K0

def l_dot_pen_line_fdot_Dot_1 {R : Type} (l : List ByteArray) (o1 : List Int) (o3 : List ByteArray) (K0 : (List ByteArray) → (List Int) → Option R) : Option R := evl fun fuel => e_dot_pen_line_fdot_Dot_1 (run_dot_pen_line_fdot_Dot_1 K0 fuel) K0 l o1 o3

theorem ok_dot_pen_line_fdot_Dot_1 {R : Type} (l : List ByteArray) (o1 : List Int) (o3 : List ByteArray) (K0 : (List ByteArray) → (List Int) → Option R) {r : R} (h : l_dot_pen_line_fdot_Dot_1 l o1 o3 K0 = some r) : ∃ fuel, e_dot_pen_line_fdot_Dot_1 (run_dot_pen_line_fdot_Dot_1 K0 fuel) K0 l o1 o3 = some r := evl_ok h

theorem line1_go {R : Type} (l : List ByteArray) (hl : l.length ≤ 1000) (o3 : List ByteArray) (K0 : (List ByteArray) → (List Int) → Option R) : ∀ (d i : Nat) (acc : List Int), i + d = l.length → acc.length + ((l.drop i).map bts).flatten.length + 1 ≤ lim →
    Reach (fun m => run_dot_pen_line_fdot_Dot_1 K0 m l (l.length : Int) (i : Int) o3 acc) (K0 o3 (acc ++ ((l.drop i).map bts).flatten ++ [10])) := by
  intro d
  induction d with
  | zero =>
    intro i acc hi hb
    refine .now fun m => ?_
    dsimp only [run_dot_pen_line_fdot_Dot_1]
    unfold s_dot_pen_line_fdot_Dot_1_2
    rw [List.drop_of_length_le (by omega)] at hb ⊢
    simp only [List.map_nil, List.flatten_nil, List.length_nil, List.append_nil] at hb ⊢
    rw [br_neg (by omega), br_pos (by simp only [List.length_cons, List.length_nil]; omega)]
  | succ d ih =>
    intro i acc hi hb
    have hil : i < l.length := by omega
    rw [List.drop_eq_getElem_cons hil] at hb ⊢
    simp only [List.map_cons, List.flatten_cons, List.length_append] at hb ⊢
    refine .step (fun m => ?_) ((ih (i + 1) (acc ++ bts l[i]) (by omega) (by rw [List.length_append]; omega)).of_eq (by simp only [List.append_assoc]))
    dsimp only [run_dot_pen_line_fdot_Dot_1]
    unfold s_dot_pen_line_fdot_Dot_1_2
    rw [br_pos (by omega), br_pos (by omega), Int.toNat_natCast, getD_of ByteArray.empty hil, br_pos (by omega), wr _ (by omega) (by omega)]
    rfl

theorem line1_eq {R : Type} (l : List ByteArray) (hl : l.length ≤ 1000) (acc : List Int) (o3 : List ByteArray) (K0 : (List ByteArray) → (List Int) → Option R) (hb : acc.length + (l.map bts).flatten.length + 3 ≤ lim) :
    l_dot_pen_line_fdot_Dot_1 l acc o3 K0 = K0 o3 (acc ++ lineS (l.map bts).flatten) := by
  unfold l_dot_pen_line_fdot_Dot_1
  refine evl_eq (.same (G := fun m => run_dot_pen_line_fdot_Dot_1 K0 m l (l.length : Int) ((0 : Nat) : Int) o3 (acc ++ [32, 32])) (fun m => ?_) ((line1_go l hl o3 K0 l.length 0 (acc ++ [32, 32]) (by omega) (by rw [List.drop_zero, List.length_append]; simp only [List.length_cons, List.length_nil]; omega)).of_eq ?_))
  · unfold e_dot_pen_line_fdot_Dot_1
    rw [br_pos (by simp only [List.length_cons, List.length_nil]; omega)]
    rfl
  · rw [List.drop_zero]
    unfold lineS
    simp only [List.append_assoc]

abbrev LT_strconv_AppendInt := {R : Type} → Int → Int → ((List Int) → Option R) → Option R
/-- strconv.AppendInt -/
def l_strconv_AppendInt {R : Type} (i base : Int) (K0 : List Int → Option R) : Option R := l_AppendInt i base K0

abbrev LT_text_Put := {R : Type} → Int → ((List Int) → Option R) → Option R
/-- tutor/text.Put -/
def l_text_Put {R : Type} (n : Int) (K0 : (List Int) → Option R) : Option R :=
  l_strconv_AppendInt n 10
   (fun r1 =>
    K0 r1)

theorem put_eq {R : Type} {n : Int} (h : inI n) (K0 : List Int → Option R) : l_text_Put n K0 = K0 (itoaI n) := by
  unfold l_text_Put l_strconv_AppendInt l_AppendInt
  unfold inI at h
  rw [br_pos ⟨rfl, h⟩]

abbrev LT_dot_num := {R : Type} → Int → (ByteArray → Option R) → Option R
/-- tutor/dot.num -/
def l_dot_num {R : Type} (n : Int) (K0 : ByteArray → Option R) : Option R :=
  l_text_Put n
   (fun r1 =>
    K0 (ofBts r1))

theorem dnum_eq {R : Type} {n : Int} (h : inI n) (K0 : ByteArray → Option R) : l_dot_num n K0 = K0 (ofBts (itoaI n)) := by
  unfold l_dot_num
  rw [put_eq h]

abbrev LT_dot_edges := {R : Type} → Int → Int → Int → Int → (List Int) → (List Int) → (Int → Int → Int → Int → (List Int) → (List Int) → Option R) → Option R
/-- tutor/dot.edges -/
def l_dot_edges {R : Type} (m m_1 m_2 m_3 : Int) (m_4 m_5 : List Int) (K0 : Int → Int → Int → Int → (List Int) → (List Int) → Option R) : Option R :=
  K0 m m_1 m_2 m_3 m_4 m_5

abbrev LT_dot_Dot_2 := {R : Type} → Int → Int → Int → (List ByteArray) → Int → Int → Int → Int → (List Int) → (List Int) → (ByteArray → (List ByteArray) → Int → Int → Int → Int → (List Int) → (List Int) → Option R) → Option R
/-- tutor/dot.Dot$2 -/
def l_dot_Dot_2 {R : Type} (e e_1 e_2 : Int) (o1 : List ByteArray) (o2 o2_1 o2_2 o2_3 : Int) (o2_4 o2_5 : List Int) (K0 : ByteArray → (List ByteArray) → Int → Int → Int → Int → (List Int) → (List Int) → Option R) : Option R :=
  bi (decide (0 ≤ e_1 ∧ e_1 < ((o1.length : Nat) : Int)))
   (bi (catOk (o1.getD e_1.toNat ByteArray.empty) (ByteArray.mk #[47]))
    (bi (decide (0 ≤ (IntKind.i64.wrap ((IntKind.i64.wrap (e * o2_1)) + e_1)) ∧ (IntKind.i64.wrap ((IntKind.i64.wrap (e * o2_1)) + e_1)) < ((o2_5.length : Nat) : Int)))
     (l_dot_num (o2_5.getD ((IntKind.i64.wrap ((IntKind.i64.wrap (e * o2_1)) + e_1)).toNat) 0)
      (fun r1 =>
       bi (catOk ((o1.getD e_1.toNat ByteArray.empty) ++ (ByteArray.mk #[47])) r1)
        (K0 (((o1.getD e_1.toNat ByteArray.empty) ++ (ByteArray.mk #[47])) ++ r1) o1 o2 o2_1 o2_2 o2_3 o2_4 o2_5)
        none))
     none)
    none)
   none

theorem dlab2_eq {R : Type} (e x t : Int) (o1 : List ByteArray) (k K O N : Int) (nx ou : List Int) {i : Nat} (hi : e * K + x = i) (hs : i < 1000000) (he : 0 ≤ e * K) (hx : 0 ≤ x ∧ x < ((o1.length : Nat) : Int)) (ho : i < ou.length) (hn : inI (ou.getD i 0)) (hz : (o1.getD x.toNat ByteArray.empty).size ≤ 5)
    (K0 : ByteArray → (List ByteArray) → Int → Int → Int → Int → (List Int) → (List Int) → Option R) :
    l_dot_Dot_2 e x t o1 k K O N nx ou K0 = K0 ((o1.getD x.toNat ByteArray.empty ++ ByteArray.mk #[47]) ++ ofBts (itoaI (ou.getD i 0))) o1 k K O N nx ou := by
  have h1 : (ByteArray.mk #[47]).size = 1 := rfl
  have h2 : (ofBts (itoaI (ou.getD i 0))).size ≤ 21 := by rw [← bts_size, num_bts]; exact itoaI_len hn
  have h3 : ((o1.getD x.toNat ByteArray.empty) ++ (ByteArray.mk #[47])).size ≤ 6 := by rw [ByteArray.size_append]; omega
  unfold l_dot_Dot_2
  rw [br_pos hx, br_cat (by omega), wr (e * K) (by omega) (by omega), hi, wr (i : Int) (by omega) (by omega), br_pos (by omega), Int.toNat_natCast, dnum_eq hn]
  try dsimp only
  rw [br_cat (by omega)]

abbrev LT_round_of_dot_Dot_fdot_Dot_2 := {R : Type} → Int → Int → Int → (List Int) → (List ByteArray) → Int → Int → Int → Int → (List Int) → (List Int) → ((List ByteArray) → Int → Int → Int → Int → (List Int) → (List Int) → (List Int) → Option R) → Option R
/-- round of tutor/dot.Dot -/
def l_round_of_dot_Dot_fdot_Dot_2 {R : Type} (names names_1 names_2 : Int) (o3 : List Int) (o5 : List ByteArray) (o6 o6_1 o6_2 o6_3 : Int) (o6_4 o6_5 : List Int) (K0 : (List ByteArray) → Int → Int → Int → Int → (List Int) → (List Int) → (List Int) → Option R) : Option R :=
  both
   (l_dot_num names
    (fun r1 =>
     l_dot_num names_2
      (fun r2 =>
       l_dot_Dot_2 names names_1 names_2 o5 o6 o6_1 o6_2 o6_3 o6_4 o6_5
        (fun r3 r4 r5 r6 r7 r8 r9 r10 =>
         l_dot_pen_line_fdot_Dot_2 [r1, (ByteArray.mk #[32, 45, 62, 32]), r2, (ByteArray.mk #[32, 91, 108, 97, 98, 101, 108, 61, 34]), r3, (ByteArray.mk #[34, 93])] o3 r4 r5 r6 r7 r8 r9 r10
          (fun r11 r12 r13 r14 r15 r16 r17 r18 =>
           K0 r11 r12 r13 r14 r15 r16 r17 r18)))))
   (l_dot_num names
    (fun r1 =>
     both
      (l_dot_num names_2
       (fun r2 =>
        l_dot_Dot_2 names names_1 names_2 o5 o6 o6_1 o6_2 o6_3 o6_4 o6_5
         (fun r3 r4 r5 r6 r7 r8 r9 r10 =>
          l_dot_pen_line_fdot_Dot_2 [r1, (ByteArray.mk #[32, 45, 62, 32]), r2, (ByteArray.mk #[32, 91, 108, 97, 98, 101, 108, 61, 34]), r3, (ByteArray.mk #[34, 93])] o3 r4 r5 r6 r7 r8 r9 r10
           (fun r11 r12 r13 r14 r15 r16 r17 r18 =>
            K0 r11 r12 r13 r14 r15 r16 r17 r18))))
      (l_dot_num names_2
       (fun r2 =>
        both
         (l_dot_Dot_2 names names_1 names_2 o5 o6 o6_1 o6_2 o6_3 o6_4 o6_5
          (fun r3 r4 r5 r6 r7 r8 r9 r10 =>
           l_dot_pen_line_fdot_Dot_2 [r1, (ByteArray.mk #[32, 45, 62, 32]), r2, (ByteArray.mk #[32, 91, 108, 97, 98, 101, 108, 61, 34]), r3, (ByteArray.mk #[34, 93])] o3 r4 r5 r6 r7 r8 r9 r10
            (fun r11 r12 r13 r14 r15 r16 r17 r18 =>
             K0 r11 r12 r13 r14 r15 r16 r17 r18)))
         (l_dot_Dot_2 names names_1 names_2 o5 o6 o6_1 o6_2 o6_3 o6_4 o6_5
          (fun r3 r4 r5 r6 r7 r8 r9 r10 =>
           twice
            (l_dot_pen_line_fdot_Dot_2 [r1, (ByteArray.mk #[32, 45, 62, 32]), r2, (ByteArray.mk #[32, 91, 108, 97, 98, 101, 108, 61, 34]), r3, (ByteArray.mk #[34, 93])] o3 r4 r5 r6 r7 r8 r9 r10
             (fun r11 r12 r13 r14 r15 r16 r17 r18 =>
              K0 r11 r12 r13 r14 r15 r16 r17 r18))))))))

theorem round2_eq {R : Type} {s x t : Int} (acc : List Int) (o5 : List ByteArray) (k K O N : Int) (nx ou : List Int) {i : Nat} (hi : s * K + x = i) (hs' : i < 1000000) (he : 0 ≤ s * K) (hs : inI s) (ht : inI t) (hx : 0 ≤ x ∧ x < ((o5.length : Nat) : Int)) (ho : i < ou.length) (hn : inI (ou.getD i 0)) (hz : (o5.getD x.toNat ByteArray.empty).size ≤ 5) (hb : acc.length ≤ 10000000)
    (K0 : (List ByteArray) → Int → Int → Int → Int → (List Int) → (List Int) → (List Int) → Option R) :
    l_round_of_dot_Dot_fdot_Dot_2 s x t acc o5 k K O N nx ou K0 = K0 o5 k K O N nx ou (acc ++ lineS (itoaI s ++ [32, 45, 62, 32] ++ itoaI t ++ sLabel ++ (bts (o5.getD x.toNat ByteArray.empty) ++ [47] ++ itoaI (ou.getD i 0)) ++ [34, 93])) := by
  have a1 := itoaI_len hs
  have a2 := itoaI_len ht
  have a3 := bts_size (o5.getD x.toNat ByteArray.empty)
  have a4 := itoaI_len hn
  have e : ([ofBts (itoaI s), ByteArray.mk #[32, 45, 62, 32], ofBts (itoaI t), ByteArray.mk #[32, 91, 108, 97, 98, 101, 108, 61, 34], (o5.getD x.toNat ByteArray.empty ++ ByteArray.mk #[47]) ++ ofBts (itoaI (ou.getD i 0)), ByteArray.mk #[34, 93]].map bts).flatten = itoaI s ++ [32, 45, 62, 32] ++ itoaI t ++ sLabel ++ (bts (o5.getD x.toNat ByteArray.empty) ++ [47] ++ itoaI (ou.getD i 0)) ++ [34, 93] := by
    simp only [List.map_cons, List.map_nil, List.flatten_cons, List.flatten_nil, num_bts, bts_app, List.append_assoc]
    rfl
  have hl : acc.length + ([ofBts (itoaI s), ByteArray.mk #[32, 45, 62, 32], ofBts (itoaI t), ByteArray.mk #[32, 91, 108, 97, 98, 101, 108, 61, 34], (o5.getD x.toNat ByteArray.empty ++ ByteArray.mk #[47]) ++ ofBts (itoaI (ou.getD i 0)), ByteArray.mk #[34, 93]].map bts).flatten.length + 3 ≤ lim := by
    rw [e]
    simp only [List.length_append, List.length_cons, List.length_nil, sLabel, lim]
    omega
  unfold l_round_of_dot_Dot_fdot_Dot_2
  simp only [dnum_eq hs, dnum_eq ht, dlab2_eq s x t o5 k K O N nx ou hi hs' he hx ho hn hz, line2_eq _ (by simp) acc o5 k K O N nx ou K0 hl, both_same, twice_eq]
  rw [e]

abbrev LT_dot_edges_1_ydot_Dot_fdot_Dot_2 := {R : Type} → (List Int) → (List ByteArray) → Int → Int → Int → Int → (List Int) → (List Int) → Int → Int → Int → Int → (List Int) → (List Int) → ((List Int) → (List ByteArray) → Int → Int → Int → Int → (List Int) → (List Int) → Int → Int → Int → Int → (List Int) → (List Int) → Option R) → ((List ByteArray) → Int → Int → Int → Int → (List Int) → (List Int) → Int → Int → Int → Int → (List Int) → (List Int) → (List Int) → Option R) → Option R
abbrev GT_dot_edges_1_ydot_Dot_fdot_Dot_2_1a (R : Type) := (List Int) → Int → Int → (List Int) → (List ByteArray) → Int → Int → Int → Int → (List Int) → (List Int) → Int → Int → Int → Int → (List Int) → (List Int) → Option R
abbrev GT_dot_edges_1_ydot_Dot_fdot_Dot_2_1b (R : Type) := (List Int) → Int → Int → (List ByteArray) → Int → Int → Int → Int → (List Int) → (List Int) → Int → Int → Int → Int → (List Int) → (List Int) → (List Int) → Option R
/-- tutor/dot.edges$1 -/
def s_dot_edges_1_ydot_Dot_fdot_Dot_2_1a {R : Type} (g31_1 : GT_dot_edges_1_ydot_Dot_fdot_Dot_2_1a R) (g31_1b : GT_dot_edges_1_ydot_Dot_fdot_Dot_2_1b R) (K0 : (List Int) → (List ByteArray) → Int → Int → Int → Int → (List Int) → (List Int) → Int → Int → Int → Int → (List Int) → (List Int) → Option R) (K1 : (List ByteArray) → Int → Int → Int → Int → (List Int) → (List Int) → Int → Int → Int → Int → (List Int) → (List Int) → (List Int) → Option R) (x6 : List Int) (x7 x8 : Int) (o3 : List Int) (o5 : List ByteArray) (o6 o6_1 o6_2 o6_3 : Int) (o6_4 o6_5 : List Int) (o7 o7_1 o7_2 o7_3 : Int) (o7_4 o7_5 : List Int) : Option R :=
  bi (decide (x8 < x7))
   (bi (decide (0 ≤ x8 ∧ x8 < ((x6.length : Nat) : Int)))
    (bi (decide (o7_1 = 0))
     none
     (bi (decide (o7_1 = 0))
      none
      (l_round_of_dot_Dot_fdot_Dot_2 (IntKind.i64.wrap (x8.tdiv o7_1)) (x8.tmod o7_1) (x6.getD x8.toNat 0) o3 o5 o6 o6_1 o6_2 o6_3 o6_4 o6_5
       (fun r1 r2 r3 r4 r5 r6 r7 r8 =>
        g31_1b x6 x7 (IntKind.i64.wrap (x8 + 1)) r1 r2 r3 r4 r5 r6 r7 o7 o7_1 o7_2 o7_3 o7_4 o7_5 r8))))
    none)
   (K0 o3 o5 o6 o6_1 o6_2 o6_3 o6_4 o6_5 o7 o7_1 o7_2 o7_3 o7_4 o7_5)

/-- tutor/dot.edges$1 -/
def s_dot_edges_1_ydot_Dot_fdot_Dot_2_1b {R : Type} (g31_1 : GT_dot_edges_1_ydot_Dot_fdot_Dot_2_1a R) (g31_1b : GT_dot_edges_1_ydot_Dot_fdot_Dot_2_1b R) (K0 : (List Int) → (List ByteArray) → Int → Int → Int → Int → (List Int) → (List Int) → Int → Int → Int → Int → (List Int) → (List Int) → Option R) (K1 : (List ByteArray) → Int → Int → Int → Int → (List Int) → (List Int) → Int → Int → Int → Int → (List Int) → (List Int) → (List Int) → Option R) (x6 : List Int) (x7 x8 : Int) (o5 : List ByteArray) (o6 o6_1 o6_2 o6_3 : Int) (o6_4 o6_5 : List Int) (o7 o7_1 o7_2 o7_3 : Int) (o7_4 o7_5 o8 : List Int) : Option R :=
  bi (decide (x8 < x7))
   (bi (decide (0 ≤ x8 ∧ x8 < ((x6.length : Nat) : Int)))
    (bi (decide (o7_1 = 0))
     none
     (bi (decide (o7_1 = 0))
      none
      (l_round_of_dot_Dot_fdot_Dot_2 (IntKind.i64.wrap (x8.tdiv o7_1)) (x8.tmod o7_1) (x6.getD x8.toNat 0) o8 o5 o6 o6_1 o6_2 o6_3 o6_4 o6_5
       (fun r9 r10 r11 r12 r13 r14 r15 r16 =>
        g31_1b x6 x7 (IntKind.i64.wrap (x8 + 1)) r9 r10 r11 r12 r13 r14 r15 o7 o7_1 o7_2 o7_3 o7_4 o7_5 r16))))
    none)
   (K1 o5 o6 o6_1 o6_2 o6_3 o6_4 o6_5 o7 o7_1 o7_2 o7_3 o7_4 o7_5 o8)

/-- tutor/dot.edges$1 -/
def e_dot_edges_1_ydot_Dot_fdot_Dot_2 {R : Type} (g31_1 : GT_dot_edges_1_ydot_Dot_fdot_Dot_2_1a R) (g31_1b : GT_dot_edges_1_ydot_Dot_fdot_Dot_2_1b R) (K0 : (List Int) → (List ByteArray) → Int → Int → Int → Int → (List Int) → (List Int) → Int → Int → Int → Int → (List Int) → (List Int) → Option R) (K1 : (List ByteArray) → Int → Int → Int → Int → (List Int) → (List Int) → Int → Int → Int → Int → (List Int) → (List Int) → (List Int) → Option R) (o3 : List Int) (o5 : List ByteArray) (o6 o6_1 o6_2 o6_3 : Int) (o6_4 o6_5 : List Int) (o7 o7_1 o7_2 o7_3 : Int) (o7_4 o7_5 : List Int) : Option R :=
  g31_1 o7_4 (o7_4.length : Int) 0 o3 o5 o6 o6_1 o6_2 o6_3 o6_4 o6_5 o7 o7_1 o7_2 o7_3 o7_4 o7_5

def run_dot_edges_1_ydot_Dot_fdot_Dot_2 {R : Type} (K0 : (List Int) → (List ByteArray) → Int → Int → Int → Int → (List Int) → (List Int) → Int → Int → Int → Int → (List Int) → (List Int) → Option R) (K1 : (List ByteArray) → Int → Int → Int → Int → (List Int) → (List Int) → Int → Int → Int → Int → (List Int) → (List Int) → (List Int) → Option R) : Nat → ((List Int) → Int → Int → (List Int) → (List ByteArray) → Int → Int → Int → Int → (List Int) → (List Int) → Int → Int → Int → Int → (List Int) → (List Int) → Option R) × ((List Int) → Int → Int → (List ByteArray) → Int → Int → Int → Int → (List Int) → (List Int) → Int → Int → Int → Int → (List Int) → (List Int) → (List Int) → Option R)
  | 0 => (fun _ _ _ _ _ _ _ _ _ _ _ _ _ _ _ _ _ => none, fun _ _ _ _ _ _ _ _ _ _ _ _ _ _ _ _ _ => none)
  | n + 1 => (s_dot_edges_1_ydot_Dot_fdot_Dot_2_1a (run_dot_edges_1_ydot_Dot_fdot_Dot_2 K0 K1 n).1 (run_dot_edges_1_ydot_Dot_fdot_Dot_2 K0 K1 n).2 K0 K1, s_dot_edges_1_ydot_Dot_fdot_Dot_2_1b (run_dot_edges_1_ydot_Dot_fdot_Dot_2 K0 K1 n).1 (run_dot_edges_1_ydot_Dot_fdot_Dot_2 K0 K1 n).2 K0 K1)

def l_dot_edges_1_ydot_Dot_fdot_Dot_2 {R : Type} (o3 : List Int) (o5 : List ByteArray) (o6 o6_1 o6_2 o6_3 : Int) (o6_4 o6_5 : List Int) (o7 o7_1 o7_2 o7_3 : Int) (o7_4 o7_5 : List Int) (K0 : (List Int) → (List ByteArray) → Int → Int → Int → Int → (List Int) → (List Int) → Int → Int → Int → Int → (List Int) → (List Int) → Option R) (K1 : (List ByteArray) → Int → Int → Int → Int → (List Int) → (List Int) → Int → Int → Int → Int → (List Int) → (List Int) → (List Int) → Option R) : Option R := evl fun fuel => e_dot_edges_1_ydot_Dot_fdot_Dot_2 (run_dot_edges_1_ydot_Dot_fdot_Dot_2 K0 K1 fuel).1 (run_dot_edges_1_ydot_Dot_fdot_Dot_2 K0 K1 fuel).2 K0 K1 o3 o5 o6 o6_1 o6_2 o6_3 o6_4 o6_5 o7 o7_1 o7_2 o7_3 o7_4 o7_5

theorem ok_dot_edges_1_ydot_Dot_fdot_Dot_2 {R : Type} (o3 : List Int) (o5 : List ByteArray) (o6 o6_1 o6_2 o6_3 : Int) (o6_4 o6_5 : List Int) (o7 o7_1 o7_2 o7_3 : Int) (o7_4 o7_5 : List Int) (K0 : (List Int) → (List ByteArray) → Int → Int → Int → Int → (List Int) → (List Int) → Int → Int → Int → Int → (List Int) → (List Int) → Option R) (K1 : (List ByteArray) → Int → Int → Int → Int → (List Int) → (List Int) → Int → Int → Int → Int → (List Int) → (List Int) → (List Int) → Option R) {r : R} (h : l_dot_edges_1_ydot_Dot_fdot_Dot_2 o3 o5 o6 o6_1 o6_2 o6_3 o6_4 o6_5 o7 o7_1 o7_2 o7_3 o7_4 o7_5 K0 K1 = some r) : ∃ fuel, e_dot_edges_1_ydot_Dot_fdot_Dot_2 (run_dot_edges_1_ydot_Dot_fdot_Dot_2 K0 K1 fuel).1 (run_dot_edges_1_ydot_Dot_fdot_Dot_2 K0 K1 fuel).2 K0 K1 o3 o5 o6 o6_1 o6_2 o6_3 o6_4 o6_5 o7 o7_1 o7_2 o7_3 o7_4 o7_5 = some r := evl_ok h

theorem st_dot_edges_1_ydot_Dot_fdot_Dot_2_1a {R : Type} (K0 : (List Int) → (List ByteArray) → Int → Int → Int → Int → (List Int) → (List Int) → Int → Int → Int → Int → (List Int) → (List Int) → Option R) (K1 : (List ByteArray) → Int → Int → Int → Int → (List Int) → (List Int) → Int → Int → Int → Int → (List Int) → (List Int) → (List Int) → Option R) (fuel : Nat) (x6 : List Int) (x7 x8 : Int) (o3 : List Int) (o5 : List ByteArray) (o6 o6_1 o6_2 o6_3 : Int) (o6_4 o6_5 : List Int) (o7 o7_1 o7_2 o7_3 : Int) (o7_4 o7_5 : List Int) : (run_dot_edges_1_ydot_Dot_fdot_Dot_2 K0 K1 (fuel + 1)).1 x6 x7 x8 o3 o5 o6 o6_1 o6_2 o6_3 o6_4 o6_5 o7 o7_1 o7_2 o7_3 o7_4 o7_5 = s_dot_edges_1_ydot_Dot_fdot_Dot_2_1a (run_dot_edges_1_ydot_Dot_fdot_Dot_2 K0 K1 fuel).1 (run_dot_edges_1_ydot_Dot_fdot_Dot_2 K0 K1 fuel).2 K0 K1 x6 x7 x8 o3 o5 o6 o6_1 o6_2 o6_3 o6_4 o6_5 o7 o7_1 o7_2 o7_3 o7_4 o7_5 := rfl

theorem st_dot_edges_1_ydot_Dot_fdot_Dot_2_1b {R : Type} (K0 : (List Int) → (List ByteArray) → Int → Int → Int → Int → (List Int) → (List Int) → Int → Int → Int → Int → (List Int) → (List Int) → Option R) (K1 : (List ByteArray) → Int → Int → Int → Int → (List Int) → (List Int) → Int → Int → Int → Int → (List Int) → (List Int) → (List Int) → Option R) (fuel : Nat) (x6 : List Int) (x7 x8 : Int) (o5 : List ByteArray) (o6 o6_1 o6_2 o6_3 : Int) (o6_4 o6_5 : List Int) (o7 o7_1 o7_2 o7_3 : Int) (o7_4 o7_5 o8 : List Int) : (run_dot_edges_1_ydot_Dot_fdot_Dot_2 K0 K1 (fuel + 1)).2 x6 x7 x8 o5 o6 o6_1 o6_2 o6_3 o6_4 o6_5 o7 o7_1 o7_2 o7_3 o7_4 o7_5 o8 = s_dot_edges_1_ydot_Dot_fdot_Dot_2_1b (run_dot_edges_1_ydot_Dot_fdot_Dot_2 K0 K1 fuel).1 (run_dot_edges_1_ydot_Dot_fdot_Dot_2 K0 K1 fuel).2 K0 K1 x6 x7 x8 o5 o6 o6_1 o6_2 o6_3 o6_4 o6_5 o7 o7_1 o7_2 o7_3 o7_4 o7_5 o8 := rfl

theorem edge2_step {R : Type} {k K O N : Int} {nx ou names : List Int} (D : DotOk k K O N nx ou names) (hk : k = 2) {i : Nat} (hi : i < nx.length) (K0 : (List ByteArray) → Int → Int → Int → Int → (List Int) → (List Int) → (List Int) → Option R) :
    l_round_of_dot_Dot_fdot_Dot_2 (IntKind.i64.wrap ((i : Int).tdiv K)) ((i : Int).tmod K) (nx.getD i 0) (partS (linesEd k K N nx ou names i)) (names.map labB) k K O N nx ou K0 = K0 (names.map labB) k K O N nx ou (partS (linesEd k K N nx ou names (i + 1))) := by
  obtain ⟨h1, h2, h3, h4⟩ := D.idx hi
  have hN := D.F.fN
  have hK := D.F.fK
  have hn := D.nxv hi
  have hp := partEd_len D (Nat.le_of_lt hi)
  obtain ⟨hl1, hl2⟩ := D.lab (x := i % K.toNat) (by omega)
  have hsz := labB_size hl1.1
  obtain ⟨q, rfl⟩ : ∃ q : Nat, K = q := ⟨K.toNat, by omega⟩
  simp only [Int.toNat_natCast] at *
  have hx := D.lenNx.2
  rw [show (i : Int).tdiv (q : Int) = ((i / q : Nat) : Int) from rfl, show (i : Int).tmod (q : Int) = ((i % q : Nat) : Int) from rfl]
  rw [linesEd_succ, part_snoc]
  unfold edS onS
  rw [Int.toNat_natCast]
  generalize i / q = a at *
  generalize i % q = b at *
  rw [wr (a : Int) (by omega) (by omega)]
  have ho : i < ou.length := by
    have a1 := D.F.fou2 hk
    have a2 := D.F.fnx
    omega
  have hov := D.ouv i
  have hq : (a : Int) * (q : Int) + (b : Int) = (i : Int) := by exact_mod_cast h3
  rw [round2_eq _ _ _ _ _ _ _ _ hq (by omega) (by exact_mod_cast Nat.zero_le _) (by unfold inI; omega) (by unfold inI; omega) ⟨by omega, by rw [List.length_map]; omega⟩ ho (by unfold inI; omega) (by rw [Int.toNat_natCast, hl2]; exact hsz) (by omega)]
  rw [Int.toNat_natCast, hl2, lab_bts hl1.1, if_pos hk]

theorem edges2_go {R : Type} {k K O N : Int} {nx ou names : List Int} (D : DotOk k K O N nx ou names) (hk : k = 2) (K0 : (List Int) → (List ByteArray) → Int → Int → Int → Int → (List Int) → (List Int) → Int → Int → Int → Int → (List Int) → (List Int) → Option R) (K1 : (List ByteArray) → Int → Int → Int → Int → (List Int) → (List Int) → Int → Int → Int → Int → (List Int) → (List Int) → (List Int) → Option R) : ∀ (d i : Nat), i + d = nx.length →
    Reach (fun m => (run_dot_edges_1_ydot_Dot_fdot_Dot_2 K0 K1 m).2 nx (nx.length : Int) (i : Int) (names.map labB) k K O N nx ou k K O N nx ou (partS (linesEd k K N nx ou names i))) (K1 (names.map labB) k K O N nx ou k K O N nx ou (partS (linesEd k K N nx ou names nx.length))) := by
  have hK := D.F.fK
  have hx := D.lenNx.2
  intro d
  induction d with
  | zero =>
    intro i hi
    refine .now fun m => ?_
    dsimp only [run_dot_edges_1_ydot_Dot_fdot_Dot_2]
    unfold s_dot_edges_1_ydot_Dot_fdot_Dot_2_1b
    obtain rfl : i = nx.length := by omega
    rw [br_neg (by omega)]
  | succ d ih =>
    intro i hi
    refine .step (fun m => ?_) (ih (i + 1) (by omega))
    dsimp only [run_dot_edges_1_ydot_Dot_fdot_Dot_2]
    unfold s_dot_edges_1_ydot_Dot_fdot_Dot_2_1b
    rw [br_pos (by omega), br_pos (by omega), br_neg (by omega), br_neg (by omega), Int.toNat_natCast, edge2_step D hk (by omega), wr _ (by omega) (by omega)]
    rfl

theorem edges2_eq {R : Type} {k K O N : Int} {nx ou names : List Int} (D : DotOk k K O N nx ou names) (hk : k = 2) (K0 : (List Int) → (List ByteArray) → Int → Int → Int → Int → (List Int) → (List Int) → Int → Int → Int → Int → (List Int) → (List Int) → Option R) (K1 : (List ByteArray) → Int → Int → Int → Int → (List Int) → (List Int) → Int → Int → Int → Int → (List Int) → (List Int) → (List Int) → Option R) :
    l_dot_edges_1_ydot_Dot_fdot_Dot_2 (partS (linesEd k K N nx ou names 0)) (names.map labB) k K O N nx ou k K O N nx ou K0 K1 = K1 (names.map labB) k K O N nx ou k K O N nx ou (partS (linesEd k K N nx ou names nx.length)) := by
  have hK := D.F.fK
  have hx := D.lenNx.2
  have h0 : 0 < nx.length := D.pos
  unfold l_dot_edges_1_ydot_Dot_fdot_Dot_2
  refine evl_eq (.same (G := fun m => (run_dot_edges_1_ydot_Dot_fdot_Dot_2 K0 K1 m).1 nx (nx.length : Int) ((0 : Nat) : Int) (partS (linesEd k K N nx ou names 0)) (names.map labB) k K O N nx ou k K O N nx ou) (fun m => rfl) (.step (fun m => ?_) (edges2_go D hk K0 K1 (nx.length - 1) 1 (by omega))))
  dsimp only [run_dot_edges_1_ydot_Dot_fdot_Dot_2]
  unfold s_dot_edges_1_ydot_Dot_fdot_Dot_2_1a
  rw [br_pos (by omega), br_pos (by omega), br_neg (by omega), br_neg (by omega), Int.toNat_natCast, edge2_step D hk h0, wr _ (by omega) (by omega)]
  rfl

abbrev LT_dot_Dot_1 := {R : Type} → Int → Int → Int → (List ByteArray) → (ByteArray → (List ByteArray) → Option R) → Option R
/-- tutor/dot.Dot$1 -/
def l_dot_Dot_1 {R : Type} (e e_1 e_2 : Int) (o1 : List ByteArray) (K0 : ByteArray → (List ByteArray) → Option R) : Option R :=
  bi (decide (0 ≤ e_1 ∧ e_1 < ((o1.length : Nat) : Int)))
   (K0 (o1.getD e_1.toNat ByteArray.empty) o1)
   none

theorem dlab1_eq {R : Type} (e x t : Int) (o1 : List ByteArray) (h : 0 ≤ x ∧ x < ((o1.length : Nat) : Int)) (K0 : ByteArray → (List ByteArray) → Option R) : l_dot_Dot_1 e x t o1 K0 = K0 (o1.getD x.toNat ByteArray.empty) o1 := by
  unfold l_dot_Dot_1
  rw [br_pos h]

abbrev LT_round_of_dot_Dot_fdot_Dot_1 := {R : Type} → Int → Int → Int → (List Int) → (List ByteArray) → ((List ByteArray) → (List Int) → Option R) → Option R
/-- round of tutor/dot.Dot -/
def l_round_of_dot_Dot_fdot_Dot_1 {R : Type} (names names_1 names_2 : Int) (o3 : List Int) (o5 : List ByteArray) (K0 : (List ByteArray) → (List Int) → Option R) : Option R :=
  both
   (l_dot_num names
    (fun r1 =>
     l_dot_num names_2
      (fun r2 =>
       l_dot_Dot_1 names names_1 names_2 o5
        (fun r3 r4 =>
         l_dot_pen_line_fdot_Dot_1 [r1, (ByteArray.mk #[32, 45, 62, 32]), r2, (ByteArray.mk #[32, 91, 108, 97, 98, 101, 108, 61, 34]), r3, (ByteArray.mk #[34, 93])] o3 r4
          (fun r5 r6 =>
           K0 r5 r6)))))
   (l_dot_num names
    (fun r1 =>
     both
      (l_dot_num names_2
       (fun r2 =>
        l_dot_Dot_1 names names_1 names_2 o5
         (fun r3 r4 =>
          l_dot_pen_line_fdot_Dot_1 [r1, (ByteArray.mk #[32, 45, 62, 32]), r2, (ByteArray.mk #[32, 91, 108, 97, 98, 101, 108, 61, 34]), r3, (ByteArray.mk #[34, 93])] o3 r4
           (fun r5 r6 =>
            K0 r5 r6))))
      (l_dot_num names_2
       (fun r2 =>
        both
         (l_dot_Dot_1 names names_1 names_2 o5
          (fun r3 r4 =>
           l_dot_pen_line_fdot_Dot_1 [r1, (ByteArray.mk #[32, 45, 62, 32]), r2, (ByteArray.mk #[32, 91, 108, 97, 98, 101, 108, 61, 34]), r3, (ByteArray.mk #[34, 93])] o3 r4
            (fun r5 r6 =>
             K0 r5 r6)))
         (l_dot_Dot_1 names names_1 names_2 o5
          (fun r3 r4 =>
           twice
            (l_dot_pen_line_fdot_Dot_1 [r1, (ByteArray.mk #[32, 45, 62, 32]), r2, (ByteArray.mk #[32, 91, 108, 97, 98, 101, 108, 61, 34]), r3, (ByteArray.mk #[34, 93])] o3 r4
             (fun r5 r6 =>
              K0 r5 r6))))))))

theorem round1_eq {R : Type} {s x t : Int} (acc : List Int) (o5 : List ByteArray) (hs : inI s) (ht : inI t) (hx : 0 ≤ x ∧ x < ((o5.length : Nat) : Int)) (hz : (o5.getD x.toNat ByteArray.empty).size ≤ 5) (hb : acc.length ≤ 10000000) (K0 : (List ByteArray) → (List Int) → Option R) :
    l_round_of_dot_Dot_fdot_Dot_1 s x t acc o5 K0 = K0 o5 (acc ++ lineS (itoaI s ++ [32, 45, 62, 32] ++ itoaI t ++ sLabel ++ bts (o5.getD x.toNat ByteArray.empty) ++ [34, 93])) := by
  have a1 := itoaI_len hs
  have a2 := itoaI_len ht
  have a3 := bts_size (o5.getD x.toNat ByteArray.empty)
  have e : ([ofBts (itoaI s), ByteArray.mk #[32, 45, 62, 32], ofBts (itoaI t), ByteArray.mk #[32, 91, 108, 97, 98, 101, 108, 61, 34], o5.getD x.toNat ByteArray.empty, ByteArray.mk #[34, 93]].map bts).flatten = itoaI s ++ [32, 45, 62, 32] ++ itoaI t ++ sLabel ++ bts (o5.getD x.toNat ByteArray.empty) ++ [34, 93] := by
    simp only [List.map_cons, List.map_nil, List.flatten_cons, List.flatten_nil, num_bts, List.append_assoc]
    rfl
  have hl : acc.length + ([ofBts (itoaI s), ByteArray.mk #[32, 45, 62, 32], ofBts (itoaI t), ByteArray.mk #[32, 91, 108, 97, 98, 101, 108, 61, 34], o5.getD x.toNat ByteArray.empty, ByteArray.mk #[34, 93]].map bts).flatten.length + 3 ≤ lim := by
    rw [e]
    simp only [List.length_append, List.length_cons, List.length_nil, sLabel, lim]
    omega
  unfold l_round_of_dot_Dot_fdot_Dot_1
  simp only [dnum_eq hs, dnum_eq ht, dlab1_eq s x t o5 hx, line1_eq _ (by simp) acc o5 K0 hl, both_same, twice_eq]
  rw [e]

abbrev LT_dot_edges_1_ydot_Dot_fdot_Dot_1 := {R : Type} → (List Int) → (List ByteArray) → Int → Int → Int → Int → (List Int) → (List Int) → ((List Int) → (List ByteArray) → Int → Int → Int → Int → (List Int) → (List Int) → Option R) → ((List ByteArray) → Int → Int → Int → Int → (List Int) → (List Int) → (List Int) → Option R) → Option R
abbrev GT_dot_edges_1_ydot_Dot_fdot_Dot_1_1a (R : Type) := (List Int) → Int → Int → (List Int) → (List ByteArray) → Int → Int → Int → Int → (List Int) → (List Int) → Option R
abbrev GT_dot_edges_1_ydot_Dot_fdot_Dot_1_1b (R : Type) := (List Int) → Int → Int → (List ByteArray) → Int → Int → Int → Int → (List Int) → (List Int) → (List Int) → Option R
/-- tutor/dot.edges$1 -/
def s_dot_edges_1_ydot_Dot_fdot_Dot_1_1a {R : Type} (g31b_1 : GT_dot_edges_1_ydot_Dot_fdot_Dot_1_1a R) (g31b_1b : GT_dot_edges_1_ydot_Dot_fdot_Dot_1_1b R) (K0 : (List Int) → (List ByteArray) → Int → Int → Int → Int → (List Int) → (List Int) → Option R) (K1 : (List ByteArray) → Int → Int → Int → Int → (List Int) → (List Int) → (List Int) → Option R) (x6 : List Int) (x7 x8 : Int) (o3 : List Int) (o5 : List ByteArray) (o6 o6_1 o6_2 o6_3 : Int) (o6_4 o6_5 : List Int) : Option R :=
  bi (decide (x8 < x7))
   (bi (decide (0 ≤ x8 ∧ x8 < ((x6.length : Nat) : Int)))
    (bi (decide (o6_1 = 0))
     none
     (bi (decide (o6_1 = 0))
      none
      (l_round_of_dot_Dot_fdot_Dot_1 (IntKind.i64.wrap (x8.tdiv o6_1)) (x8.tmod o6_1) (x6.getD x8.toNat 0) o3 o5
       (fun r1 r2 =>
        g31b_1b x6 x7 (IntKind.i64.wrap (x8 + 1)) r1 o6 o6_1 o6_2 o6_3 o6_4 o6_5 r2))))
    none)
   (K0 o3 o5 o6 o6_1 o6_2 o6_3 o6_4 o6_5)

/-- tutor/dot.edges$1 -/
def s_dot_edges_1_ydot_Dot_fdot_Dot_1_1b {R : Type} (g31b_1 : GT_dot_edges_1_ydot_Dot_fdot_Dot_1_1a R) (g31b_1b : GT_dot_edges_1_ydot_Dot_fdot_Dot_1_1b R) (K0 : (List Int) → (List ByteArray) → Int → Int → Int → Int → (List Int) → (List Int) → Option R) (K1 : (List ByteArray) → Int → Int → Int → Int → (List Int) → (List Int) → (List Int) → Option R) (x6 : List Int) (x7 x8 : Int) (o5 : List ByteArray) (o6 o6_1 o6_2 o6_3 : Int) (o6_4 o6_5 o7 : List Int) : Option R :=
  bi (decide (x8 < x7))
   (bi (decide (0 ≤ x8 ∧ x8 < ((x6.length : Nat) : Int)))
    (bi (decide (o6_1 = 0))
     none
     (bi (decide (o6_1 = 0))
      none
      (l_round_of_dot_Dot_fdot_Dot_1 (IntKind.i64.wrap (x8.tdiv o6_1)) (x8.tmod o6_1) (x6.getD x8.toNat 0) o7 o5
       (fun r3 r4 =>
        g31b_1b x6 x7 (IntKind.i64.wrap (x8 + 1)) r3 o6 o6_1 o6_2 o6_3 o6_4 o6_5 r4))))
    none)
   (K1 o5 o6 o6_1 o6_2 o6_3 o6_4 o6_5 o7)

/-- tutor/dot.edges$1 -/
def e_dot_edges_1_ydot_Dot_fdot_Dot_1 {R : Type} (g31b_1 : GT_dot_edges_1_ydot_Dot_fdot_Dot_1_1a R) (g31b_1b : GT_dot_edges_1_ydot_Dot_fdot_Dot_1_1b R) (K0 : (List Int) → (List ByteArray) → Int → Int → Int → Int → (List Int) → (List Int) → Option R) (K1 : (List ByteArray) → Int → Int → Int → Int → (List Int) → (List Int) → (List Int) → Option R) (o3 : List Int) (o5 : List ByteArray) (o6 o6_1 o6_2 o6_3 : Int) (o6_4 o6_5 : List Int) : Option R :=
  g31b_1 o6_4 (o6_4.length : Int) 0 o3 o5 o6 o6_1 o6_2 o6_3 o6_4 o6_5

def run_dot_edges_1_ydot_Dot_fdot_Dot_1 {R : Type} (K0 : (List Int) → (List ByteArray) → Int → Int → Int → Int → (List Int) → (List Int) → Option R) (K1 : (List ByteArray) → Int → Int → Int → Int → (List Int) → (List Int) → (List Int) → Option R) : Nat → ((List Int) → Int → Int → (List Int) → (List ByteArray) → Int → Int → Int → Int → (List Int) → (List Int) → Option R) × ((List Int) → Int → Int → (List ByteArray) → Int → Int → Int → Int → (List Int) → (List Int) → (List Int) → Option R)
  | 0 => (fun _ _ _ _ _ _ _ _ _ _ _ => none, fun _ _ _ _ _ _ _ _ _ _ _ => none)
  | n + 1 => (s_dot_edges_1_ydot_Dot_fdot_Dot_1_1a (run_dot_edges_1_ydot_Dot_fdot_Dot_1 K0 K1 n).1 (run_dot_edges_1_ydot_Dot_fdot_Dot_1 K0 K1 n).2 K0 K1, s_dot_edges_1_ydot_Dot_fdot_Dot_1_1b (run_dot_edges_1_ydot_Dot_fdot_Dot_1 K0 K1 n).1 (run_dot_edges_1_ydot_Dot_fdot_Dot_1 K0 K1 n).2 K0 K1)

def l_dot_edges_1_ydot_Dot_fdot_Dot_1 {R : Type} (o3 : List Int) (o5 : List ByteArray) (o6 o6_1 o6_2 o6_3 : Int) (o6_4 o6_5 : List Int) (K0 : (List Int) → (List ByteArray) → Int → Int → Int → Int → (List Int) → (List Int) → Option R) (K1 : (List ByteArray) → Int → Int → Int → Int → (List Int) → (List Int) → (List Int) → Option R) : Option R := evl fun fuel => e_dot_edges_1_ydot_Dot_fdot_Dot_1 (run_dot_edges_1_ydot_Dot_fdot_Dot_1 K0 K1 fuel).1 (run_dot_edges_1_ydot_Dot_fdot_Dot_1 K0 K1 fuel).2 K0 K1 o3 o5 o6 o6_1 o6_2 o6_3 o6_4 o6_5

theorem ok_dot_edges_1_ydot_Dot_fdot_Dot_1 {R : Type} (o3 : List Int) (o5 : List ByteArray) (o6 o6_1 o6_2 o6_3 : Int) (o6_4 o6_5 : List Int) (K0 : (List Int) → (List ByteArray) → Int → Int → Int → Int → (List Int) → (List Int) → Option R) (K1 : (List ByteArray) → Int → Int → Int → Int → (List Int) → (List Int) → (List Int) → Option R) {r : R} (h : l_dot_edges_1_ydot_Dot_fdot_Dot_1 o3 o5 o6 o6_1 o6_2 o6_3 o6_4 o6_5 K0 K1 = some r) : ∃ fuel, e_dot_edges_1_ydot_Dot_fdot_Dot_1 (run_dot_edges_1_ydot_Dot_fdot_Dot_1 K0 K1 fuel).1 (run_dot_edges_1_ydot_Dot_fdot_Dot_1 K0 K1 fuel).2 K0 K1 o3 o5 o6 o6_1 o6_2 o6_3 o6_4 o6_5 = some r := evl_ok h

theorem st_dot_edges_1_ydot_Dot_fdot_Dot_1_1a {R : Type} (K0 : (List Int) → (List ByteArray) → Int → Int → Int → Int → (List Int) → (List Int) → Option R) (K1 : (List ByteArray) → Int → Int → Int → Int → (List Int) → (List Int) → (List Int) → Option R) (fuel : Nat) (x6 : List Int) (x7 x8 : Int) (o3 : List Int) (o5 : List ByteArray) (o6 o6_1 o6_2 o6_3 : Int) (o6_4 o6_5 : List Int) : (run_dot_edges_1_ydot_Dot_fdot_Dot_1 K0 K1 (fuel + 1)).1 x6 x7 x8 o3 o5 o6 o6_1 o6_2 o6_3 o6_4 o6_5 = s_dot_edges_1_ydot_Dot_fdot_Dot_1_1a (run_dot_edges_1_ydot_Dot_fdot_Dot_1 K0 K1 fuel).1 (run_dot_edges_1_ydot_Dot_fdot_Dot_1 K0 K1 fuel).2 K0 K1 x6 x7 x8 o3 o5 o6 o6_1 o6_2 o6_3 o6_4 o6_5 := rfl

theorem st_dot_edges_1_ydot_Dot_fdot_Dot_1_1b {R : Type} (K0 : (List Int) → (List ByteArray) → Int → Int → Int → Int → (List Int) → (List Int) → Option R) (K1 : (List ByteArray) → Int → Int → Int → Int → (List Int) → (List Int) → (List Int) → Option R) (fuel : Nat) (x6 : List Int) (x7 x8 : Int) (o5 : List ByteArray) (o6 o6_1 o6_2 o6_3 : Int) (o6_4 o6_5 o7 : List Int) : (run_dot_edges_1_ydot_Dot_fdot_Dot_1 K0 K1 (fuel + 1)).2 x6 x7 x8 o5 o6 o6_1 o6_2 o6_3 o6_4 o6_5 o7 = s_dot_edges_1_ydot_Dot_fdot_Dot_1_1b (run_dot_edges_1_ydot_Dot_fdot_Dot_1 K0 K1 fuel).1 (run_dot_edges_1_ydot_Dot_fdot_Dot_1 K0 K1 fuel).2 K0 K1 x6 x7 x8 o5 o6 o6_1 o6_2 o6_3 o6_4 o6_5 o7 := rfl

theorem edge1_step {R : Type} {k K O N : Int} {nx ou names : List Int} (D : DotOk k K O N nx ou names) (hk : k ≠ 2) {i : Nat} (hi : i < nx.length) (K0 : (List ByteArray) → (List Int) → Option R) :
    l_round_of_dot_Dot_fdot_Dot_1 (IntKind.i64.wrap ((i : Int).tdiv K)) ((i : Int).tmod K) (nx.getD i 0) (partS (linesEd k K N nx ou names i)) (names.map labB) K0 = K0 (names.map labB) (partS (linesEd k K N nx ou names (i + 1))) := by
  obtain ⟨h1, h2, h3, h4⟩ := D.idx hi
  have hN := D.F.fN
  have hK := D.F.fK
  have hn := D.nxv hi
  have hp := partEd_len D (Nat.le_of_lt hi)
  obtain ⟨hl1, hl2⟩ := D.lab (x := i % K.toNat) (by omega)
  have hsz := labB_size hl1.1
  obtain ⟨q, rfl⟩ : ∃ q : Nat, K = q := ⟨K.toNat, by omega⟩
  simp only [Int.toNat_natCast] at *
  have hx := D.lenNx.2
  rw [show (i : Int).tdiv (q : Int) = ((i / q : Nat) : Int) from rfl, show (i : Int).tmod (q : Int) = ((i % q : Nat) : Int) from rfl]
  rw [linesEd_succ, part_snoc]
  unfold edS onS
  rw [Int.toNat_natCast]
  generalize i / q = a at *
  generalize i % q = b at *
  rw [wr (a : Int) (by omega) (by omega)]
  rw [round1_eq _ _ (by unfold inI; omega) (by unfold inI; omega) ⟨by omega, by rw [List.length_map]; omega⟩ (by rw [Int.toNat_natCast, hl2]; exact hsz) (by omega)]
  rw [Int.toNat_natCast, hl2, lab_bts hl1.1, if_neg hk]

theorem edges1_go {R : Type} {k K O N : Int} {nx ou names : List Int} (D : DotOk k K O N nx ou names) (hk : k ≠ 2) (K0 : (List Int) → (List ByteArray) → Int → Int → Int → Int → (List Int) → (List Int) → Option R) (K1 : (List ByteArray) → Int → Int → Int → Int → (List Int) → (List Int) → (List Int) → Option R) : ∀ (d i : Nat), i + d = nx.length →
    Reach (fun m => (run_dot_edges_1_ydot_Dot_fdot_Dot_1 K0 K1 m).2 nx (nx.length : Int) (i : Int) (names.map labB) k K O N nx ou (partS (linesEd k K N nx ou names i))) (K1 (names.map labB) k K O N nx ou (partS (linesEd k K N nx ou names nx.length))) := by
  have hK := D.F.fK
  have hx := D.lenNx.2
  intro d
  induction d with
  | zero =>
    intro i hi
    refine .now fun m => ?_
    dsimp only [run_dot_edges_1_ydot_Dot_fdot_Dot_1]
    unfold s_dot_edges_1_ydot_Dot_fdot_Dot_1_1b
    obtain rfl : i = nx.length := by omega
    rw [br_neg (by omega)]
  | succ d ih =>
    intro i hi
    refine .step (fun m => ?_) (ih (i + 1) (by omega))
    dsimp only [run_dot_edges_1_ydot_Dot_fdot_Dot_1]
    unfold s_dot_edges_1_ydot_Dot_fdot_Dot_1_1b
    rw [br_pos (by omega), br_pos (by omega), br_neg (by omega), br_neg (by omega), Int.toNat_natCast, edge1_step D hk (by omega), wr _ (by omega) (by omega)]
    rfl

theorem edges1_eq {R : Type} {k K O N : Int} {nx ou names : List Int} (D : DotOk k K O N nx ou names) (hk : k ≠ 2) (K0 : (List Int) → (List ByteArray) → Int → Int → Int → Int → (List Int) → (List Int) → Option R) (K1 : (List ByteArray) → Int → Int → Int → Int → (List Int) → (List Int) → (List Int) → Option R) :
    l_dot_edges_1_ydot_Dot_fdot_Dot_1 (partS (linesEd k K N nx ou names 0)) (names.map labB) k K O N nx ou K0 K1 = K1 (names.map labB) k K O N nx ou (partS (linesEd k K N nx ou names nx.length)) := by
  have hK := D.F.fK
  have hx := D.lenNx.2
  have h0 : 0 < nx.length := D.pos
  unfold l_dot_edges_1_ydot_Dot_fdot_Dot_1
  refine evl_eq (.same (G := fun m => (run_dot_edges_1_ydot_Dot_fdot_Dot_1 K0 K1 m).1 nx (nx.length : Int) ((0 : Nat) : Int) (partS (linesEd k K N nx ou names 0)) (names.map labB) k K O N nx ou) (fun m => rfl) (.step (fun m => ?_) (edges1_go D hk K0 K1 (nx.length - 1) 1 (by omega))))
  dsimp only [run_dot_edges_1_ydot_Dot_fdot_Dot_1]
  unfold s_dot_edges_1_ydot_Dot_fdot_Dot_1_1a
  rw [br_pos (by omega), br_pos (by omega), br_neg (by omega), br_neg (by omega), Int.toNat_natCast, edge1_step D hk h0, wr _ (by omega) (by omega)]
  rfl

abbrev LT_dot_Dot := {R : Type} → Int → Int → Int → Int → (List Int) → (List Int) → (List Int) → (Int → (List Int) → Option R) → (Int → (List Int) → Option R) → Option R
abbrev GT_dot_Dot_8 (R : Type) := (List Int) → Int → Int → Int → Int → Int → Int → (List Int) → (List Int) → (List ByteArray) → Option R
abbrev GT_dot_Dot_21a (R : Type) := Int → Int → Int → Int → Int → Int → (List Int) → (List Int) → (List Int) → (List ByteArray) → Option R
abbrev GT_dot_Dot_21b (R : Type) := Int → Int → Int → Int → Int → Int → (List Int) → (List Int) → (List Int) → (List ByteArray) → Option R
/-- tutor/dot.Dot -/
def s_dot_Dot_8 {R : Type} (g9_8 : GT_dot_Dot_8 R) (g9_21 : GT_dot_Dot_21a R) (g9_21b : GT_dot_Dot_21b R) (K0 : Int → (List Int) → Option R) (K1 : Int → (List Int) → Option R) (names : List Int) (x33 x34 o0 o0_1 o0_2 o0_3 : Int) (o0_4 o0_5 : List Int) (o2 : List ByteArray) : Option R :=
  bi (decide (x34 < x33))
   (l_dot_Label names x34
    (fun r3 r4 =>
     bi (r4 != 0)
      (K0 r4 ([] : List Int))
      (bi (decide (0 ≤ x34 ∧ x34 < ((o2.length : Nat) : Int)))
       (g9_8 names x33 (IntKind.i64.wrap (x34 + 1)) o0 o0_1 o0_2 o0_3 o0_4 o0_5 (o2.set x34.toNat r3))
       none)))
   (bi (decide (0 < [100, 105, 103, 114, 97, 112, 104, 32, 109, 32, 123, 10].length))
    (bi (o0 == 2)
     (l_dot_pen_line_fdot_Dot_2 [(ByteArray.mk #[114, 97, 110, 107, 100, 105, 114, 61, 76, 82])] [100, 105, 103, 114, 97, 112, 104, 32, 109, 32, 123, 10] o2 o0 o0_1 o0_2 o0_3 o0_4 o0_5
      (fun r5 r6 r7 r8 r9 r10 r11 r12 =>
       l_dot_pen_line_fdot_Dot_2 [(ByteArray.mk #[115, 116, 97, 114, 116, 32, 91, 115, 104, 97, 112, 101, 61, 112, 111, 105, 110, 116, 93])] r12 r5 r6 r7 r8 r9 r10 r11
        (fun r13 r14 r15 r16 r17 r18 r19 r20 =>
         g9_21 r17 0 r14 r15 r16 r17 r18 r19 r20 r13)))
     (l_dot_pen_line_fdot_Dot_1 [(ByteArray.mk #[114, 97, 110, 107, 100, 105, 114, 61, 76, 82])] [100, 105, 103, 114, 97, 112, 104, 32, 109, 32, 123, 10] o2
      (fun r21 r22 =>
       l_dot_pen_line_fdot_Dot_1 [(ByteArray.mk #[115, 116, 97, 114, 116, 32, 91, 115, 104, 97, 112, 101, 61, 112, 111, 105, 110, 116, 93])] r22 r21
        (fun r23 r24 =>
         g9_21b o0_3 0 o0 o0_1 o0_2 o0_3 o0_4 o0_5 r24 r23))))
    none)

/-- tutor/dot.Dot -/
def s_dot_Dot_21a {R : Type} (g9_8 : GT_dot_Dot_8 R) (g9_21 : GT_dot_Dot_21a R) (g9_21b : GT_dot_Dot_21b R) (K0 : Int → (List Int) → Option R) (K1 : Int → (List Int) → Option R) (x70 x71 o0 o0_1 o0_2 o0_3 : Int) (o0_4 o0_5 o3 : List Int) (o5 : List ByteArray) : Option R :=
  bi (decide (x71 < x70))
   (bi (o0 == 1)
    (bi (decide (0 ≤ x71 ∧ x71 < ((o0_5.length : Nat) : Int)))
     (bi ((o0_5.getD x71.toNat 0) == 1)
      (l_dot_num x71
       (fun r25 =>
        l_dot_pen_line_fdot_Dot_2 [r25, (ByteArray.mk #[32, 91, 115, 104, 97, 112, 101, 61]), (ByteArray.mk #[100, 111, 117, 98, 108, 101, 99, 105, 114, 99, 108, 101]), (ByteArray.mk #[93])] o3 o5 o0 o0_1 o0_2 o0_3 o0_4 o0_5
         (fun r26 r27 r28 r29 r30 r31 r32 r33 =>
          g9_21 x70 (IntKind.i64.wrap (x71 + 1)) r27 r28 r29 r30 r31 r32 r33 r26)))
      (l_dot_num x71
       (fun r34 =>
        l_dot_pen_line_fdot_Dot_2 [r34, (ByteArray.mk #[32, 91, 115, 104, 97, 112, 101, 61]), (ByteArray.mk #[99, 105, 114, 99, 108, 101]), (ByteArray.mk #[93])] o3 o5 o0 o0_1 o0_2 o0_3 o0_4 o0_5
         (fun r35 r36 r37 r38 r39 r40 r41 r42 =>
          g9_21 x70 (IntKind.i64.wrap (x71 + 1)) r36 r37 r38 r39 r40 r41 r42 r35))))
     none)
    (l_dot_num x71
     (fun r43 =>
      l_dot_pen_line_fdot_Dot_2 [r43, (ByteArray.mk #[32, 91, 115, 104, 97, 112, 101, 61]), (ByteArray.mk #[99, 105, 114, 99, 108, 101]), (ByteArray.mk #[93])] o3 o5 o0 o0_1 o0_2 o0_3 o0_4 o0_5
       (fun r44 r45 r46 r47 r48 r49 r50 r51 =>
        g9_21 x70 (IntKind.i64.wrap (x71 + 1)) r45 r46 r47 r48 r49 r50 r51 r44))))
   (l_dot_pen_line_fdot_Dot_2 [(ByteArray.mk #[115, 116, 97, 114, 116, 32, 45, 62, 32, 48])] o3 o5 o0 o0_1 o0_2 o0_3 o0_4 o0_5
    (fun r52 r53 r54 r55 r56 r57 r58 r59 =>
     l_dot_edges r53 r54 r55 r56 r57 r58
      (fun r60 r61 r62 r63 r64 r65 =>
       l_dot_edges_1_ydot_Dot_fdot_Dot_2 r59 r52 r53 r54 r55 r56 r57 r58 r60 r61 r62 r63 r64 r65
        (fun r66 r67 r68 r69 r70 r71 r72 r73 r74 r75 r76 r77 r78 r79 =>
         bi (decide ((r66.length + (bts (ByteArray.mk #[125, 10])).length) * 1 ≤ lim))
          (K1 0 (r66 ++ (bts (ByteArray.mk #[125, 10]))))
          none)
        (fun r80 r81 r82 r83 r84 r85 r86 r87 r88 r89 r90 r91 r92 r93 =>
         bi (decide ((r93.length + (bts (ByteArray.mk #[125, 10])).length) * 1 ≤ lim))
          (K1 0 (r93 ++ (bts (ByteArray.mk #[125, 10]))))
          none))))

/-- tutor/dot.Dot -/
def s_dot_Dot_21b {R : Type} (g9_8 : GT_dot_Dot_8 R) (g9_21 : GT_dot_Dot_21a R) (g9_21b : GT_dot_Dot_21b R) (K0 : Int → (List Int) → Option R) (K1 : Int → (List Int) → Option R) (x70 x71 o0 o0_1 o0_2 o0_3 : Int) (o0_4 o0_5 o3 : List Int) (o5 : List ByteArray) : Option R :=
  bi (decide (x71 < x70))
   (bi (o0 == 1)
    (bi (decide (0 ≤ x71 ∧ x71 < ((o0_5.length : Nat) : Int)))
     (bi ((o0_5.getD x71.toNat 0) == 1)
      (l_dot_num x71
       (fun r94 =>
        l_dot_pen_line_fdot_Dot_1 [r94, (ByteArray.mk #[32, 91, 115, 104, 97, 112, 101, 61]), (ByteArray.mk #[100, 111, 117, 98, 108, 101, 99, 105, 114, 99, 108, 101]), (ByteArray.mk #[93])] o3 o5
         (fun r95 r96 =>
          g9_21b x70 (IntKind.i64.wrap (x71 + 1)) o0 o0_1 o0_2 o0_3 o0_4 o0_5 r96 r95)))
      (l_dot_num x71
       (fun r97 =>
        l_dot_pen_line_fdot_Dot_1 [r97, (ByteArray.mk #[32, 91, 115, 104, 97, 112, 101, 61]), (ByteArray.mk #[99, 105, 114, 99, 108, 101]), (ByteArray.mk #[93])] o3 o5
         (fun r98 r99 =>
          g9_21b x70 (IntKind.i64.wrap (x71 + 1)) o0 o0_1 o0_2 o0_3 o0_4 o0_5 r99 r98))))
     none)
    (l_dot_num x71
     (fun r100 =>
      l_dot_pen_line_fdot_Dot_1 [r100, (ByteArray.mk #[32, 91, 115, 104, 97, 112, 101, 61]), (ByteArray.mk #[99, 105, 114, 99, 108, 101]), (ByteArray.mk #[93])] o3 o5
       (fun r101 r102 =>
        g9_21b x70 (IntKind.i64.wrap (x71 + 1)) o0 o0_1 o0_2 o0_3 o0_4 o0_5 r102 r101))))
   (l_dot_pen_line_fdot_Dot_1 [(ByteArray.mk #[115, 116, 97, 114, 116, 32, 45, 62, 32, 48])] o3 o5
    (fun r103 r104 =>
     l_dot_edges o0 o0_1 o0_2 o0_3 o0_4 o0_5
      (fun r105 r106 r107 r108 r109 r110 =>
       l_dot_edges_1_ydot_Dot_fdot_Dot_1 r104 r103 r105 r106 r107 r108 r109 r110
        (fun r111 r112 r113 r114 r115 r116 r117 r118 =>
         bi (decide ((r111.length + (bts (ByteArray.mk #[125, 10])).length) * 1 ≤ lim))
          (K1 0 (r111 ++ (bts (ByteArray.mk #[125, 10]))))
          none)
        (fun r119 r120 r121 r122 r123 r124 r125 r126 =>
         bi (decide ((r126.length + (bts (ByteArray.mk #[125, 10])).length) * 1 ≤ lim))
          (K1 0 (r126 ++ (bts (ByteArray.mk #[125, 10]))))
          none))))

/-- tutor/dot.Dot -/
def e_dot_Dot {R : Type} (g9_8 : GT_dot_Dot_8 R) (g9_21 : GT_dot_Dot_21a R) (g9_21b : GT_dot_Dot_21b R) (K0 : Int → (List Int) → Option R) (K1 : Int → (List Int) → Option R) (m m_1 m_2 m_3 : Int) (m_4 m_5 names : List Int) : Option R :=
  l_machine_Check m m_1 m_2 m_3 m_4 m_5
   (fun r1 r2 =>
    bi (r2 != 0)
     (K0 r2 ([] : List Int))
     (bi ((names.length : Int) != m_1)
      (K0 1 ([] : List Int))
      (bi (decide (0 ≤ m_1 ∧ m_1 ≤ m_1 ∧ m_1 ≤ 1073741824))
       (g9_8 names m_1 0 m m_1 m_2 m_3 m_4 m_5 (List.replicate m_1.toNat (ByteArray.empty : ByteArray)))
       none)))

def run_dot_Dot {R : Type} (K0 : Int → (List Int) → Option R) (K1 : Int → (List Int) → Option R) : Nat → ((List Int) → Int → Int → Int → Int → Int → Int → (List Int) → (List Int) → (List ByteArray) → Option R) × (Int → Int → Int → Int → Int → Int → (List Int) → (List Int) → (List Int) → (List ByteArray) → Option R) × (Int → Int → Int → Int → Int → Int → (List Int) → (List Int) → (List Int) → (List ByteArray) → Option R)
  | 0 => (fun _ _ _ _ _ _ _ _ _ _ => none, fun _ _ _ _ _ _ _ _ _ _ => none, fun _ _ _ _ _ _ _ _ _ _ => none)
  | n + 1 => (s_dot_Dot_8 (run_dot_Dot K0 K1 n).1 (run_dot_Dot K0 K1 n).2.1 (run_dot_Dot K0 K1 n).2.2 K0 K1, s_dot_Dot_21a (run_dot_Dot K0 K1 n).1 (run_dot_Dot K0 K1 n).2.1 (run_dot_Dot K0 K1 n).2.2 K0 K1, s_dot_Dot_21b (run_dot_Dot K0 K1 n).1 (run_dot_Dot K0 K1 n).2.1 (run_dot_Dot K0 K1 n).2.2 K0 K1)

def l_dot_Dot {R : Type} (m m_1 m_2 m_3 : Int) (m_4 m_5 names : List Int) (K0 : Int → (List Int) → Option R) (K1 : Int → (List Int) → Option R) : Option R := evl fun fuel => e_dot_Dot (run_dot_Dot K0 K1 fuel).1 (run_dot_Dot K0 K1 fuel).2.1 (run_dot_Dot K0 K1 fuel).2.2 K0 K1 m m_1 m_2 m_3 m_4 m_5 names

theorem ok_dot_Dot {R : Type} (m m_1 m_2 m_3 : Int) (m_4 m_5 names : List Int) (K0 : Int → (List Int) → Option R) (K1 : Int → (List Int) → Option R) {r : R} (h : l_dot_Dot m m_1 m_2 m_3 m_4 m_5 names K0 K1 = some r) : ∃ fuel, e_dot_Dot (run_dot_Dot K0 K1 fuel).1 (run_dot_Dot K0 K1 fuel).2.1 (run_dot_Dot K0 K1 fuel).2.2 K0 K1 m m_1 m_2 m_3 m_4 m_5 names = some r := evl_ok h

theorem st_dot_Dot_8 {R : Type} (K0 : Int → (List Int) → Option R) (K1 : Int → (List Int) → Option R) (fuel : Nat) (names : List Int) (x33 x34 o0 o0_1 o0_2 o0_3 : Int) (o0_4 o0_5 : List Int) (o2 : List ByteArray) : (run_dot_Dot K0 K1 (fuel + 1)).1 names x33 x34 o0 o0_1 o0_2 o0_3 o0_4 o0_5 o2 = s_dot_Dot_8 (run_dot_Dot K0 K1 fuel).1 (run_dot_Dot K0 K1 fuel).2.1 (run_dot_Dot K0 K1 fuel).2.2 K0 K1 names x33 x34 o0 o0_1 o0_2 o0_3 o0_4 o0_5 o2 := rfl

theorem st_dot_Dot_21a {R : Type} (K0 : Int → (List Int) → Option R) (K1 : Int → (List Int) → Option R) (fuel : Nat) (x70 x71 o0 o0_1 o0_2 o0_3 : Int) (o0_4 o0_5 o3 : List Int) (o5 : List ByteArray) : (run_dot_Dot K0 K1 (fuel + 1)).2.1 x70 x71 o0 o0_1 o0_2 o0_3 o0_4 o0_5 o3 o5 = s_dot_Dot_21a (run_dot_Dot K0 K1 fuel).1 (run_dot_Dot K0 K1 fuel).2.1 (run_dot_Dot K0 K1 fuel).2.2 K0 K1 x70 x71 o0 o0_1 o0_2 o0_3 o0_4 o0_5 o3 o5 := rfl

theorem st_dot_Dot_21b {R : Type} (K0 : Int → (List Int) → Option R) (K1 : Int → (List Int) → Option R) (fuel : Nat) (x70 x71 o0 o0_1 o0_2 o0_3 : Int) (o0_4 o0_5 o3 : List Int) (o5 : List ByteArray) : (run_dot_Dot K0 K1 (fuel + 1)).2.2 x70 x71 o0 o0_1 o0_2 o0_3 o0_4 o0_5 o3 o5 = s_dot_Dot_21b (run_dot_Dot K0 K1 fuel).1 (run_dot_Dot K0 K1 fuel).2.1 (run_dot_Dot K0 K1 fuel).2.2 K0 K1 x70 x71 o0 o0_1 o0_2 o0_3 o0_4 o0_5 o3 o5 := rfl

theorem dlabels_go {R : Type} {k K O N : Int} {nx ou names : List Int} (hn : (names.length : Int) = K) (hK : 1 ≤ K ∧ K ≤ 64) (hc : ∀ c ∈ names, labOk c) (K0 : Int → (List Int) → Option R) (K1 : Int → (List Int) → Option R) {v : Option R}
    (hv : Reach (fun m => (run_dot_Dot K0 K1 m).1 names K (names.length : Int) k K O N nx ou (names.map labB)) v) : ∀ (d i : Nat), i + d = names.length →
    Reach (fun m => (run_dot_Dot K0 K1 m).1 names K (i : Int) k K O N nx ou (fillL names i)) v := by
  intro d
  induction d with
  | zero =>
    intro i hi
    obtain rfl : i = names.length := by omega
    rw [fillL_all]
    exact hv
  | succ d ih =>
    intro i hi
    have hil : i < names.length := by omega
    refine .step (fun m => ?_) (ih (i + 1) (by omega))
    dsimp only [run_dot_Dot]
    unfold s_dot_Dot_8
    have hf := fillL_len (Nat.le_of_lt hil)
    rw [br_pos (by omega), label_eq, labelS_at hil, if_pos (hc _ (List.getElem_mem hil))]
    try dsimp only
    rw [br_ne' rfl, br_pos (by omega), wr _ (by omega) (by omega), Int.toNat_natCast, fillL_set hil]
    rfl

theorem dlabels_bad {R : Type} {k K O N : Int} {nx ou names : List Int} (hn : (names.length : Int) = K) (hK : 1 ≤ K ∧ K ≤ 64) (K0 : Int → (List Int) → Option R) (K1 : Int → (List Int) → Option R) : ∀ (d i : Nat), i + d = names.length → ¬ (∀ c ∈ names.drop i, labOk c) →
    Reach (fun m => (run_dot_Dot K0 K1 m).1 names K (i : Int) k K O N nx ou (fillL names i)) (K0 20 []) := by
  intro d
  induction d with
  | zero =>
    intro i hi hb
    rw [List.drop_of_length_le (by omega)] at hb
    exact absurd (by simp) hb
  | succ d ih =>
    intro i hi hb
    have hil : i < names.length := by omega
    have hq := all_drop (P := labOk) hil
    by_cases hc : labOk names[i]
    · refine .step (fun m => ?_) (ih (i + 1) (by omega) fun h => hb (hq.2 ⟨hc, h⟩))
      dsimp only [run_dot_Dot]
      unfold s_dot_Dot_8
      have hf := fillL_len (Nat.le_of_lt hil)
      rw [br_pos (by omega), label_eq, labelS_at hil, if_pos hc]
      try dsimp only
      rw [br_ne' rfl, br_pos (by omega), wr _ (by omega) (by omega), Int.toNat_natCast, fillL_set hil]
      rfl
    · refine .now fun m => ?_
      dsimp only [run_dot_Dot]
      unfold s_dot_Dot_8
      rw [br_pos (by omega), label_eq, labelS_at hil, if_neg hc]
      try dsimp only
      rw [br_ne (by omega)]

theorem dstates2_go {R : Type} {k K O N : Int} {nx ou names : List Int} (D : DotOk k K O N nx ou names) (hk : k = 2) (K0 : Int → (List Int) → Option R) (K1 : Int → (List Int) → Option R) : ∀ (d s : Nat), s + d = N.toNat →
    Reach (fun m => (run_dot_Dot K0 K1 m).2.1 N (s : Int) k K O N nx ou (partS (linesSt k ou s)) (names.map labB)) (K1 0 (dotT k K N nx ou names)) := by
  have hN := D.F.fN
  have hx := D.lenNx.2
  intro d
  induction d with
  | zero =>
    intro s hs
    obtain rfl : s = N.toNat := by omega
    refine .now fun m => ?_
    have hp := partSt_len D (Nat.le_refl _)
    have hq := partEd_len D (Nat.le_refl _)
    dsimp only [run_dot_Dot]
    unfold s_dot_Dot_21a
    have e : ([ByteArray.mk #[115, 116, 97, 114, 116, 32, 45, 62, 32, 48]].map bts).flatten = sFirst := by decide
    rw [br_neg (by omega), line2_eq _ (by simp) _ _ _ _ _ _ _ _ _ (by rw [e]; simp only [sFirst, List.length_cons, List.length_nil, lim]; omega), e, ← part_snoc, ← linesEd_zero k K N nx ou names]
    unfold l_dot_edges
    try dsimp only
    rw [edges2_eq D hk]
    have e2 : bts (ByteArray.mk #[125, 10]) = [125, 10] := by decide
    try dsimp only
    rw [e2, br_pos (by simp only [List.length_cons, List.length_nil, lim]; omega), ← text_part]
    rfl
  | succ d ih =>
    intro s hs
    refine .step (fun m => ?_) (ih (s + 1) (by omega))
    have hp := partSt_len D (s := s) (by omega)
    have hi := itoa_short (n := (s : Int)) (by omega)
    dsimp only [run_dot_Dot]
    unfold s_dot_Dot_21a
    have e : ([ofBts (itoaI (s : Int)), ByteArray.mk #[32, 91, 115, 104, 97, 112, 101, 61], ByteArray.mk #[99, 105, 114, 99, 108, 101], ByteArray.mk #[93]].map bts).flatten = stS k ou s := by
      unfold stS
      rw [if_neg (by omega)]
      simp only [List.map_cons, List.map_nil, List.flatten_cons, List.flatten_nil, num_bts, List.append_assoc]
      rfl
    have hl := stS_len (k := k) (ou := ou) (s := s) (by omega)
    rw [br_pos (by omega), br_eq' (by omega), dnum_eq (by unfold inI; omega)]
    try dsimp only
    rw [line2_eq _ (by simp) _ _ _ _ _ _ _ _ _ (by rw [e]; simp only [lim]; omega), e, ← part_snoc, ← linesSt_succ, wr _ (by omega) (by omega)]
    rfl

theorem dstates1_go {R : Type} {k K O N : Int} {nx ou names : List Int} (D : DotOk k K O N nx ou names) (hk : k ≠ 2) (K0 : Int → (List Int) → Option R) (K1 : Int → (List Int) → Option R) : ∀ (d s : Nat), s + d = N.toNat →
    Reach (fun m => (run_dot_Dot K0 K1 m).2.2 N (s : Int) k K O N nx ou (partS (linesSt k ou s)) (names.map labB)) (K1 0 (dotT k K N nx ou names)) := by
  have hN := D.F.fN
  have hx := D.lenNx.2
  have hk1 : k = 1 := by
    have := D.F.fk
    omega
  have ho := D.F.fou1 hk1
  intro d
  induction d with
  | zero =>
    intro s hs
    obtain rfl : s = N.toNat := by omega
    refine .now fun m => ?_
    have hp := partSt_len D (Nat.le_refl _)
    have hq := partEd_len D (Nat.le_refl _)
    dsimp only [run_dot_Dot]
    unfold s_dot_Dot_21b
    have e : ([ByteArray.mk #[115, 116, 97, 114, 116, 32, 45, 62, 32, 48]].map bts).flatten = sFirst := by decide
    rw [br_neg (by omega), line1_eq _ (by simp) _ _ _ (by rw [e]; simp only [sFirst, List.length_cons, List.length_nil, lim]; omega), e, ← part_snoc, ← linesEd_zero k K N nx ou names]
    unfold l_dot_edges
    try dsimp only
    rw [edges1_eq D hk]
    have e2 : bts (ByteArray.mk #[125, 10]) = [125, 10] := by decide
    try dsimp only
    rw [e2, br_pos (by simp only [List.length_cons, List.length_nil, lim]; omega), ← text_part]
    rfl
  | succ d ih =>
    intro s hs
    refine .step (fun m => ?_) (ih (s + 1) (by omega))
    have hp := partSt_len D (s := s) (by omega)
    dsimp only [run_dot_Dot]
    unfold s_dot_Dot_21b
    have hl := stS_len (k := k) (ou := ou) (s := s) (by omega)
    rw [br_pos (by omega), br_eq hk1, br_pos (by omega), Int.toNat_natCast]
    by_cases h : ou.getD s 0 = 1
    · have e : ([ofBts (itoaI (s : Int)), ByteArray.mk #[32, 91, 115, 104, 97, 112, 101, 61], ByteArray.mk #[100, 111, 117, 98, 108, 101, 99, 105, 114, 99, 108, 101], ByteArray.mk #[93]].map bts).flatten = stS k ou s := by
        unfold stS
        rw [if_pos ⟨hk1, h⟩]
        simp only [List.map_cons, List.map_nil, List.flatten_cons, List.flatten_nil, num_bts, List.append_assoc]
        rfl
      rw [br_eq h, dnum_eq (by unfold inI; omega)]
      try dsimp only
      rw [line1_eq _ (by simp) _ _ _ (by rw [e]; simp only [lim]; omega), e, ← part_snoc, ← linesSt_succ, wr _ (by omega) (by omega)]
      rfl
    · have e : ([ofBts (itoaI (s : Int)), ByteArray.mk #[32, 91, 115, 104, 97, 112, 101, 61], ByteArray.mk #[99, 105, 114, 99, 108, 101], ByteArray.mk #[93]].map bts).flatten = stS k ou s := by
        unfold stS
        rw [if_neg (fun q => h q.2)]
        simp only [List.map_cons, List.map_nil, List.flatten_cons, List.flatten_nil, num_bts, List.append_assoc]
        rfl
      rw [br_eq' h, dnum_eq (by unfold inI; omega)]
      try dsimp only
      rw [line1_eq _ (by simp) _ _ _ (by rw [e]; simp only [lim]; omega), e, ← part_snoc, ← linesSt_succ, wr _ (by omega) (by omega)]
      rfl

theorem dmid_go {R : Type} {k K O N : Int} {nx ou names : List Int} (D : DotOk k K O N nx ou names) (K0 : Int → (List Int) → Option R) (K1 : Int → (List Int) → Option R) :
    Reach (fun m => (run_dot_Dot K0 K1 m).1 names K (names.length : Int) k K O N nx ou (names.map labB)) (K1 0 (dotT k K N nx ou names)) := by
  have hn := D.len
  have e1 : ([ByteArray.mk #[114, 97, 110, 107, 100, 105, 114, 61, 76, 82]].map bts).flatten = sRank := by decide
  have e2 : ([ByteArray.mk #[115, 116, 97, 114, 116, 32, 91, 115, 104, 97, 112, 101, 61, 112, 111, 105, 110, 116, 93]].map bts).flatten = sStart := by decide
  have e3 : [100, 105, 103, 114, 97, 112, 104, 32, 109, 32, 123, 10] = sHead := rfl
  have b1 : sHead.length + sRank.length + 3 ≤ lim := by decide
  have b2 : (sHead ++ lineS sRank).length + sStart.length + 3 ≤ lim := by decide
  by_cases hk : k = 2
  · refine .step (fun m => ?_) (dstates2_go D hk K0 K1 N.toNat 0 (by omega))
    dsimp only [run_dot_Dot]
    unfold s_dot_Dot_8
    rw [br_neg (by omega), br_pos (by decide), br_eq hk, e3, line2_eq _ (by simp) _ _ _ _ _ _ _ _ _ (by rw [e1]; exact b1), e1, line2_eq _ (by simp) _ _ _ _ _ _ _ _ _ (by rw [e2]; exact b2), e2, ← partSt_zero k ou]
    rfl
  · refine .step (fun m => ?_) (dstates1_go D hk K0 K1 N.toNat 0 (by omega))
    dsimp only [run_dot_Dot]
    unfold s_dot_Dot_8
    rw [br_neg (by omega), br_pos (by decide), br_eq' hk, e3, line1_eq _ (by simp) _ _ _ (by rw [e1]; exact b1), e1, line1_eq _ (by simp) _ _ _ (by rw [e2]; exact b2), e2, ← partSt_zero k ou]
    rfl

theorem dot_eq {R : Type} {k K O N : Int} {nx ou names : List Int} (h1 : okL nx) (h2 : okL ou) (K0 : Int → (List Int) → Option R) (K1 : Int → (List Int) → Option R) :
    l_dot_Dot k K O N nx ou names K0 K1 = if dotE k K O N nx ou names = 0 then K1 0 (dotT k K N nx ou names) else K0 (dotE k K O N nx ou names) [] := by
  unfold l_dot_Dot
  by_cases c1 : (checkR k K O N nx ou).2 = 0
  · have F := checkR_fine.1 c1
    by_cases c2 : (names.length : Int) = K
    · have e : dotE k K O N nx ou names = if ∀ c ∈ names, labOk c then 0 else 20 := by
        unfold dotE
        rw [if_neg (by simpa using c1), if_neg (by simpa using c2)]
      refine evl_eq (.same (G := fun m => (run_dot_Dot K0 K1 m).1 names K ((0 : Nat) : Int) k K O N nx ou (fillL names 0)) (fun m => ?_) ?_)
      · unfold e_dot_Dot
        rw [check_eq _ _ _ _ _ _ h1.1 h2.1, checkS_eq h1 h2]
        have := F.fK
        rw [br_ne' c1, br_ne' c2, br_pos (by omega), fillL_zero, ← c2]
        rfl
      · by_cases c3 : ∀ c ∈ names, labOk c
        · rw [e, if_pos c3, if_pos rfl]
          exact dlabels_go c2 F.fK c3 K0 K1 (dmid_go ⟨F, c2, c3⟩ K0 K1) names.length 0 (by omega)
        · rw [e, if_neg c3, if_neg (by decide)]
          exact dlabels_bad c2 F.fK K0 K1 names.length 0 (by omega) (by rw [List.drop_zero]; exact c3)
    · have e : dotE k K O N nx ou names = 1 := by
        unfold dotE
        rw [if_neg (by simpa using c1), if_pos c2]
      refine evl_eq (.now fun m => ?_)
      unfold e_dot_Dot
      rw [check_eq _ _ _ _ _ _ h1.1 h2.1, checkS_eq h1 h2, br_ne' c1, br_ne c2, e, if_neg (by decide)]
  · have e : dotE k K O N nx ou names = (checkR k K O N nx ou).2 := by
      unfold dotE
      rw [if_pos c1]
    refine evl_eq (.now fun m => ?_)
    unfold e_dot_Dot
    rw [check_eq _ _ _ _ _ _ h1.1 h2.1, checkS_eq h1 h2, br_ne c1, e, if_neg c1]

abbrev LT_tutorlaw09_num := {R : Type} → Int → (Int → Option R) → Option R
/-- tutor/tutorlaw09.num -/
def l_tutorlaw09_num {R : Type} (e : Int) (K0 : Int → Option R) : Option R :=
  K0 e

abbrev LT_tutorlaw09_live := {R : Type} → (Bool → Option R) → Option R
/-- tutor/tutorlaw09.live -/
def l_tutorlaw09_live {R : Type}  (K0 : Bool → Option R) : Option R :=
  l_dot_Dot 1 1 2 1 [0] [1] [97]
   (fun r1 r2 =>
    l_tutorlaw09_num r1
     (fun r3 =>
      bi (r3 == 0)
       (K0 ((ofBts r2).toList == (ByteArray.mk #[100, 105, 103, 114, 97, 112, 104, 32, 109, 32, 123, 10, 32, 32, 114, 97, 110, 107, 100, 105, 114, 61, 76, 82, 10, 32, 32, 115, 116, 97, 114, 116, 32, 91, 115, 104, 97, 112, 101, 61, 112, 111, 105, 110, 116, 93, 10, 32, 32, 48, 32, 91, 115, 104, 97, 112, 101, 61, 100, 111, 117, 98, 108, 101, 99, 105, 114, 99, 108, 101, 93, 10, 32, 32, 115, 116, 97, 114, 116, 32, 45, 62, 32, 48, 10, 32, 32, 48, 32, 45, 62, 32, 48, 32, 91, 108, 97, 98, 101, 108, 61, 34, 97, 34, 93, 10, 125, 10]).toList))
       (K0 false)))
   (fun r4 r5 =>
    l_tutorlaw09_num r4
     (fun r6 =>
      bi (r6 == 0)
       (K0 ((ofBts r5).toList == (ByteArray.mk #[100, 105, 103, 114, 97, 112, 104, 32, 109, 32, 123, 10, 32, 32, 114, 97, 110, 107, 100, 105, 114, 61, 76, 82, 10, 32, 32, 115, 116, 97, 114, 116, 32, 91, 115, 104, 97, 112, 101, 61, 112, 111, 105, 110, 116, 93, 10, 32, 32, 48, 32, 91, 115, 104, 97, 112, 101, 61, 100, 111, 117, 98, 108, 101, 99, 105, 114, 99, 108, 101, 93, 10, 32, 32, 115, 116, 97, 114, 116, 32, 45, 62, 32, 48, 10, 32, 32, 48, 32, 45, 62, 32, 48, 32, 91, 108, 97, 98, 101, 108, 61, 34, 97, 34, 93, 10, 125, 10]).toList))
       (K0 false)))

theorem live09 {R : Type} (K0 : Bool → Option R) : l_tutorlaw09_live K0 = K0 true := by
  unfold l_tutorlaw09_live
  rw [dot_eq (by decide) (by decide), if_pos (show dotE 1 1 2 1 [0] [1] [97] = 0 by decide)]
  try dsimp only [l_tutorlaw09_num]
  rw [br_eq rfl, str_eq]
  exact congrArg K0 (by kernel_rfl)

abbrev LT_tutorref03_Check := {R : Type} → Int → Int → Int → Int → (List Int) → (List Int) → (Int → Int → Option R) → Option R
abbrev GT_tutorref03_Check_15 (R : Type) := Int → Int → Int → Int → Int → (List Int) → (List Int) → Option R
abbrev GT_tutorref03_Check_20 (R : Type) := Int → Int → Int → Int → Int → (List Int) → (List Int) → Option R
/-- tutor/tutorref03.Check -/
def s_tutorref03_Check_15 {R : Type} (g22_15 : GT_tutorref03_Check_15 R) (g22_20 : GT_tutorref03_Check_20 R) (K0 : Int → Int → Option R) (i o0 o0_1 o0_2 o0_3 : Int) (o0_4 o0_5 : List Int) : Option R :=
  bi (decide (i < (o0_4.length : Int)))
   (bi (decide (0 ≤ i ∧ i < ((o0_4.length : Nat) : Int)))
    (bi (decide ((o0_4.getD i.toNat 0) < 0))
     (K0 i 32)
     (bi (decide (0 ≤ i ∧ i < ((o0_4.length : Nat) : Int)))
      (bi (decide ((o0_4.getD i.toNat 0) ≥ o0_3))
       (K0 i 32)
       (g22_15 (IntKind.i64.wrap (i + 1)) o0 o0_1 o0_2 o0_3 o0_4 o0_5))
      none))
    none)
   (g22_20 0 o0 o0_1 o0_2 o0_3 o0_4 o0_5)

/-- tutor/tutorref03.Check -/
def s_tutorref03_Check_20 {R : Type} (g22_15 : GT_tutorref03_Check_15 R) (g22_20 : GT_tutorref03_Check_20 R) (K0 : Int → Int → Option R) (i o0 o0_1 o0_2 o0_3 : Int) (o0_4 o0_5 : List Int) : Option R :=
  bi (decide (i < (o0_5.length : Int)))
   (bi (decide (0 ≤ i ∧ i < ((o0_5.length : Nat) : Int)))
    (bi (decide ((o0_5.getD i.toNat 0) < 0))
     (K0 i 33)
     (bi (decide (0 ≤ i ∧ i < ((o0_5.length : Nat) : Int)))
      (bi (decide ((o0_5.getD i.toNat 0) ≥ o0_2))
       (K0 i 33)
       (g22_20 (IntKind.i64.wrap (i + 1)) o0 o0_1 o0_2 o0_3 o0_4 o0_5))
      none))
    none)
   (K0 0 0)

/-- tutor/tutorref03.Check -/
def e_tutorref03_Check {R : Type} (g22_15 : GT_tutorref03_Check_15 R) (g22_20 : GT_tutorref03_Check_20 R) (K0 : Int → Int → Option R) (m m_1 m_2 m_3 : Int) (m_4 m_5 : List Int) : Option R :=
  bi (m != 1)
   (bi (m != 2)
    (K0 0 30)
    (bi (decide (m_1 < 1))
     (K0 0 1)
     (bi (decide (m_1 > 64))
      (K0 0 1)
      (bi (m == 1)
       (bi (m_2 != 2)
        (K0 0 33)
        (bi (decide (m_2 < 1))
         (K0 0 33)
         (bi (decide (m_2 > 64))
          (K0 0 33)
          (bi (decide (m_3 < 1))
           (K0 0 3)
           (bi (decide (m_3 > 1024))
            (K0 0 3)
            (bi (m == 2)
             (bi ((m_4.length : Int) != (IntKind.i64.wrap (m_3 * m_1)))
              (K0 0 31)
              (bi ((m_5.length : Int) != (IntKind.i64.wrap (m_3 * m_1)))
               (K0 0 31)
               (g22_15 0 m m_1 m_2 m_3 m_4 m_5)))
             (bi ((m_4.length : Int) != (IntKind.i64.wrap (m_3 * m_1)))
              (K0 0 31)
              (bi ((m_5.length : Int) != m_3)
               (K0 0 31)
               (g22_15 0 m m_1 m_2 m_3 m_4 m_5)))))))))
       (bi (decide (m_2 < 1))
        (K0 0 33)
        (bi (decide (m_2 > 64))
         (K0 0 33)
         (bi (decide (m_3 < 1))
          (K0 0 3)
          (bi (decide (m_3 > 1024))
           (K0 0 3)
           (bi (m == 2)
            (bi ((m_4.length : Int) != (IntKind.i64.wrap (m_3 * m_1)))
             (K0 0 31)
             (bi ((m_5.length : Int) != (IntKind.i64.wrap (m_3 * m_1)))
              (K0 0 31)
              (g22_15 0 m m_1 m_2 m_3 m_4 m_5)))
            (bi ((m_4.length : Int) != (IntKind.i64.wrap (m_3 * m_1)))
             (K0 0 31)
             (bi ((m_5.length : Int) != m_3)
              (K0 0 31)
              (g22_15 0 m m_1 m_2 m_3 m_4 m_5))))))))))))
   (bi (decide (m_1 < 1))
    (K0 0 1)
    (bi (decide (m_1 > 64))
     (K0 0 1)
     (bi (m == 1)
      (bi (m_2 != 2)
       (K0 0 33)
       (bi (decide (m_2 < 1))
        (K0 0 33)
        (bi (decide (m_2 > 64))
         (K0 0 33)
         (bi (decide (m_3 < 1))
          (K0 0 3)
          (bi (decide (m_3 > 1024))
           (K0 0 3)
           (bi (m == 2)
            (bi ((m_4.length : Int) != (IntKind.i64.wrap (m_3 * m_1)))
             (K0 0 31)
             (bi ((m_5.length : Int) != (IntKind.i64.wrap (m_3 * m_1)))
              (K0 0 31)
              (g22_15 0 m m_1 m_2 m_3 m_4 m_5)))
            (bi ((m_4.length : Int) != (IntKind.i64.wrap (m_3 * m_1)))
             (K0 0 31)
             (bi ((m_5.length : Int) != m_3)
              (K0 0 31)
              (g22_15 0 m m_1 m_2 m_3 m_4 m_5)))))))))
      (bi (decide (m_2 < 1))
       (K0 0 33)
       (bi (decide (m_2 > 64))
        (K0 0 33)
        (bi (decide (m_3 < 1))
         (K0 0 3)
         (bi (decide (m_3 > 1024))
          (K0 0 3)
          (bi (m == 2)
           (bi ((m_4.length : Int) != (IntKind.i64.wrap (m_3 * m_1)))
            (K0 0 31)
            (bi ((m_5.length : Int) != (IntKind.i64.wrap (m_3 * m_1)))
             (K0 0 31)
             (g22_15 0 m m_1 m_2 m_3 m_4 m_5)))
           (bi ((m_4.length : Int) != (IntKind.i64.wrap (m_3 * m_1)))
            (K0 0 31)
            (bi ((m_5.length : Int) != m_3)
             (K0 0 31)
             (g22_15 0 m m_1 m_2 m_3 m_4 m_5)))))))))))

def run_tutorref03_Check {R : Type} (K0 : Int → Int → Option R) : Nat → (Int → Int → Int → Int → Int → (List Int) → (List Int) → Option R) × (Int → Int → Int → Int → Int → (List Int) → (List Int) → Option R)
  | 0 => (fun _ _ _ _ _ _ _ => none, fun _ _ _ _ _ _ _ => none)
  | n + 1 => (s_tutorref03_Check_15 (run_tutorref03_Check K0 n).1 (run_tutorref03_Check K0 n).2 K0, s_tutorref03_Check_20 (run_tutorref03_Check K0 n).1 (run_tutorref03_Check K0 n).2 K0)

def l_tutorref03_Check {R : Type} (k K O N : Int) (nx ou : List Int) (K0 : Int → Int → Option R) : Option R :=
  bi (decide (short nx ∧ short ou)) (K0 (checkR k K O N nx ou).1 (checkR k K O N nx ou).2) none

theorem checkR_head {R : Type} (g1 g2 : Int → Int → Int → Int → Int → List Int → List Int → Option R) (K0 : Int → Int → Option R) (k K O N : Int) (nx ou : List Int) :
    e_tutorref03_Check g1 g2 K0 k K O N nx ou = if headS k K O N nx ou = 0 then g1 0 k K O N nx ou else K0 0 (headS k K O N nx ou) := by
  have L0 : headS k K O N nx ou = 0 → g1 0 k K O N nx ou = if headS k K O N nx ou = 0 then g1 0 k K O N nx ou else K0 0 (headS k K O N nx ou) := fun h => by rw [if_pos h]
  have LK : ∀ c, headS k K O N nx ou = c → c ≠ 0 → K0 0 c = if headS k K O N nx ou = 0 then g1 0 k K O N nx ou else K0 0 (headS k K O N nx ou) := fun c h h0 => by rw [h, if_neg h0]
  unfold e_tutorref03_Check
  simp only [br_if, bne_iff_ne, beq_iff_eq, decide_eq_true_eq, ne_eq]
  by_cases hb : (1 ≤ N ∧ N ≤ 1024) ∧ 1 ≤ K ∧ K ≤ 64
  · have := mulK hb
    rw [wr (N * K) (by omega) (by omega)]
    repeat' (refine ite_l (fun _ => ?_) (fun _ => ?_))
    all_goals first
      | exact LK _ (by unfold headS; repeat' (refine ite_l (fun _ => ?_) (fun _ => ?_)); all_goals omega) (by omega)
      | exact L0 (by unfold headS; repeat' (refine ite_l (fun _ => ?_) (fun _ => ?_)); all_goals omega)
  · repeat' (refine ite_l (fun _ => ?_) (fun _ => ?_))
    all_goals first
      | exact LK _ (by unfold headS; repeat' (refine ite_l (fun _ => ?_) (fun _ => ?_)); all_goals omega) (by omega)
      | exact L0 (by unfold headS; repeat' (refine ite_l (fun _ => ?_) (fun _ => ?_)); all_goals omega)

theorem ok_tutorref03_Check {R : Type} (k K O N : Int) (nx ou : List Int) (K0 : Int → Int → Option R) {r : R} (h : l_tutorref03_Check k K O N nx ou K0 = some r) :
    ∃ fuel, e_tutorref03_Check (run_tutorref03_Check K0 fuel).1 (run_tutorref03_Check K0 fuel).2 K0 k K O N nx ou = some r := by
  unfold l_tutorref03_Check at h
  rcases bi_some h with ⟨hs, h⟩ | ⟨_, h⟩
  · obtain ⟨h1, h2⟩ : nx.length < 4611686018427387904 ∧ ou.length < 4611686018427387904 := of_decide_eq_true hs
    refine ⟨ou.length + 1 + (nx.length + 1), ?_⟩
    rw [← h, checkR_head]
    unfold checkR
    by_cases hh : headS k K O N nx ou = 0
    · rw [if_pos hh, if_neg (by simpa using hh)]
      have key2 : ∀ n, (run_tutorref03_Check K0 (n + (ou.length + 1))).2 0 k K O N nx ou = match findP (outside O) ou with | some i => K0 (i : Int) 33 | none => K0 0 0 := fun n =>
        scan_all (F := fun m i => (run_tutorref03_Check K0 (n + m)).2 (i : Int) k K O N nx ou) (outside O) (l := ou) (A := fun i => K0 i 33) (B := K0 0 0)
          (fun m => by
            show s_tutorref03_Check_20 (run_tutorref03_Check K0 (n + m)).1 (run_tutorref03_Check K0 (n + m)).2 K0 _ _ _ _ _ _ _ = _
            unfold s_tutorref03_Check_20
            rw [br_neg (by omega)])
          (fun m i hi => by
            show s_tutorref03_Check_20 (run_tutorref03_Check K0 (n + m)).1 (run_tutorref03_Check K0 (n + m)).2 K0 _ _ _ _ _ _ _ = _
            unfold s_tutorref03_Check_20
            rw [br_pos (by omega), br_pos (by omega), br_pos (p := 0 ≤ (i : Int) ∧ (i : Int) < ((ou.length : Nat) : Int)) (by omega), Int.toNat_natCast, getD_of 0 hi, wr _ (by omega) (by omega)]
            unfold outside
            cases decide (ou[i] < 0) <;> cases decide (ou[i] ≥ O) <;> rfl)
      have key1 := scan_all (F := fun m i => (run_tutorref03_Check K0 (ou.length + 1 + m)).1 (i : Int) k K O N nx ou) (outside N) (l := nx) (A := fun i => K0 i 32)
        (B := match findP (outside O) ou with | some i => K0 (i : Int) 33 | none => K0 0 0)
          (fun m => by
            show s_tutorref03_Check_15 (run_tutorref03_Check K0 (ou.length + 1 + m)).1 (run_tutorref03_Check K0 (ou.length + 1 + m)).2 K0 _ _ _ _ _ _ _ = _
            unfold s_tutorref03_Check_15
            rw [br_neg (by omega)]
            have := key2 m
            rwa [show m + (ou.length + 1) = ou.length + 1 + m by omega] at this)
          (fun m i hi => by
            show s_tutorref03_Check_15 (run_tutorref03_Check K0 (ou.length + 1 + m)).1 (run_tutorref03_Check K0 (ou.length + 1 + m)).2 K0 _ _ _ _ _ _ _ = _
            unfold s_tutorref03_Check_15
            rw [br_pos (by omega), br_pos (by omega), br_pos (p := 0 ≤ (i : Int) ∧ (i : Int) < ((nx.length : Nat) : Int)) (by omega), Int.toNat_natCast, getD_of 0 hi, wr _ (by omega) (by omega)]
            unfold outside
            cases decide (nx[i] < 0) <;> cases decide (nx[i] ≥ N) <;> rfl)
      refine key1.trans ?_
      cases findP (outside N) nx with
      | some i => rfl
      | none => cases findP (outside O) ou <;> rfl
    · rw [if_neg hh, if_pos (by simpa using hh)]
  · cases h

abbrev LT_tutorref02_put := {R : Type} → Int → ((List Int) → Option R) → Option R
/-- tutor/tutorref02.put -/
def l_tutorref02_put {R : Type} (c : Int) (K0 : (List Int) → Option R) : Option R :=
  bi (decide (c < 128))
   (K0 [IntKind.u8.wrap c])
   (bi (decide (c < 2048))
    (K0 [IntKind.u8.wrap (IntKind.i32.wrap (192 + (IntKind.i32.wrap (c.tdiv 64)))), IntKind.u8.wrap (IntKind.i32.wrap (128 + (c.tmod 64)))])
    (bi (decide (c < 65536))
     (K0 [IntKind.u8.wrap (IntKind.i32.wrap (224 + (IntKind.i32.wrap (c.tdiv 4096)))), IntKind.u8.wrap (IntKind.i32.wrap (128 + ((IntKind.i32.wrap (c.tdiv 64)).tmod 64))), IntKind.u8.wrap (IntKind.i32.wrap (128 + (c.tmod 64)))])
     (K0 [IntKind.u8.wrap (IntKind.i32.wrap (240 + (IntKind.i32.wrap (c.tdiv 262144)))), IntKind.u8.wrap (IntKind.i32.wrap (128 + ((IntKind.i32.wrap (c.tdiv 4096)).tmod 64))), IntKind.u8.wrap (IntKind.i32.wrap (128 + ((IntKind.i32.wrap (c.tdiv 64)).tmod 64))), IntKind.u8.wrap (IntKind.i32.wrap (128 + (c.tmod 64)))])))

theorem u8put_eq {R : Type} {c : Int} (h : runeOk c) (K0 : (List Int) → Option R) : l_tutorref02_put c K0 = K0 (putU c) := by
  have hc : 0 ≤ c ∧ c ≤ 1114111 := by
    unfold runeOk at h
    omega
  unfold l_tutorref02_put putU
  rw [Int.tdiv_eq_ediv_of_nonneg hc.1, Int.tdiv_eq_ediv_of_nonneg hc.1, Int.tdiv_eq_ediv_of_nonneg hc.1, Int.tmod_eq_emod_of_nonneg hc.1]
  by_cases h1 : c < 128
  · rw [br_pos h1, if_pos h1, wr8 c (by omega) (by omega)]
  · rw [br_neg h1, if_neg h1]
    by_cases h2 : c < 2048
    · rw [br_pos h2, if_pos h2, wr32 (c / 64) (by omega) (by omega), wr32 _ (by omega) (by omega), wr8 _ (by omega) (by omega), wr32 (128 + c % 64) (by omega) (by omega), wr8 (128 + c % 64) (by omega) (by omega)]
    · rw [br_neg h2, if_neg h2, wr32 (c / 64) (by omega) (by omega), Int.tmod_eq_emod_of_nonneg (show 0 ≤ c / 64 by omega), wr32 (128 + c / 64 % 64) (by omega) (by omega), wr8 (128 + c / 64 % 64) (by omega) (by omega), wr32 (128 + c % 64) (by omega) (by omega), wr8 (128 + c % 64) (by omega) (by omega), wr32 (c / 4096) (by omega) (by omega)]
      by_cases h3 : c < 65536
      · rw [br_pos h3, if_pos h3, wr32 (224 + c / 4096) (by omega) (by omega), wr8 (224 + c / 4096) (by omega) (by omega)]
      · rw [br_neg h3, if_neg h3, wr32 (c / 262144) (by omega) (by omega), wr32 (240 + c / 262144) (by omega) (by omega), wr8 (240 + c / 262144) (by omega) (by omega), Int.tmod_eq_emod_of_nonneg (show 0 ≤ c / 4096 by omega), wr32 (128 + c / 4096 % 64) (by omega) (by omega), wr8 (128 + c / 4096 % 64) (by omega) (by omega)]

abbrev LT_tutorref02_Show := {R : Type} → (List Int) → (List Int) → (ByteArray → Int → Option R) → Option R
abbrev GT_tutorref02_Show_3 (R : Type) := (List Int) → (List Int) → Int → (List Int) → Option R
/-- tutor/tutorref02.Show -/
def s_tutorref02_Show_3 {R : Type} (g25_3 : GT_tutorref02_Show_3 R) (K0 : ByteArray → Int → Option R) (names w : List Int) (i : Int) (o0 : List Int) : Option R :=
  bi (decide (i < (w.length : Int)))
   (bi (decide (0 ≤ i ∧ i < ((w.length : Nat) : Int)))
    (bi (decide ((w.getD i.toNat 0) < 0))
     (K0 ByteArray.empty 10)
     (bi (decide (0 ≤ i ∧ i < ((w.length : Nat) : Int)))
      (bi (decide ((w.getD i.toNat 0) ≥ (names.length : Int)))
       (K0 ByteArray.empty 10)
       (bi (decide (0 ≤ i ∧ i < ((w.length : Nat) : Int)))
        (bi (decide (0 ≤ (w.getD i.toNat 0) ∧ (w.getD i.toNat 0) < ((names.length : Nat) : Int)))
         (bi (decide ((names.getD ((w.getD i.toNat 0).toNat) 0) < 0))
          (K0 ByteArray.empty 1)
          (bi (decide ((names.getD ((w.getD i.toNat 0).toNat) 0) > 1114111))
           (K0 ByteArray.empty 1)
           (bi (decide ((names.getD ((w.getD i.toNat 0).toNat) 0) ≥ 55296))
            (bi (decide ((names.getD ((w.getD i.toNat 0).toNat) 0) ≤ 57343))
             (K0 ByteArray.empty 1)
             (l_tutorref02_put (names.getD ((w.getD i.toNat 0).toNat) 0)
              (fun r1 =>
               bi (decide ((o0.length + r1.length) * 1 ≤ lim))
                (g25_3 names w (IntKind.i64.wrap (i + 1)) (o0 ++ r1))
                none)))
            (l_tutorref02_put (names.getD ((w.getD i.toNat 0).toNat) 0)
             (fun r2 =>
              bi (decide ((o0.length + r2.length) * 1 ≤ lim))
               (g25_3 names w (IntKind.i64.wrap (i + 1)) (o0 ++ r2))
               none)))))
         none)
        none))
      none))
    none)
   (K0 (ofBts o0) 0)

/-- tutor/tutorref02.Show -/
def e_tutorref02_Show {R : Type} (g25_3 : GT_tutorref02_Show_3 R) (K0 : ByteArray → Int → Option R) (names w : List Int) : Option R :=
  g25_3 names w 0 ([] : List Int)

def run_tutorref02_Show {R : Type} (K0 : ByteArray → Int → Option R) : Nat → (List Int) → (List Int) → Int → (List Int) → Option R
  | 0 => fun _ _ _ _ => none
  | n + 1 => s_tutorref02_Show_3 (run_tutorref02_Show K0 n) K0

def l_tutorref02_Show {R : Type} (names w : List Int) (K0 : ByteArray → Int → Option R) : Option R := evl fun fuel => e_tutorref02_Show (run_tutorref02_Show K0 fuel) K0 names w

theorem ok_tutorref02_Show {R : Type} (names w : List Int) (K0 : ByteArray → Int → Option R) {r : R} (h : l_tutorref02_Show names w K0 = some r) : ∃ fuel, e_tutorref02_Show (run_tutorref02_Show K0 fuel) K0 names w = some r := evl_ok h

theorem refshow1_eq {R : Type} (names : List Int) {x : Int} (hx : 0 ≤ x ∧ x < (names.length : Int)) (K0 : ByteArray → Int → Option R) :
    l_tutorref02_Show names [x] K0 = if runeOk (names.getD x.toNat 0) then K0 (Utf8.encode (names.getD x.toNat 0)) 0 else K0 ByteArray.empty 1 := by
  have e0 : ([x] : List Int).getD (0 : Int).toNat 0 = x := rfl
  have l0 : ((([x] : List Int).length : Nat) : Int) = 1 := rfl
  unfold l_tutorref02_Show
  generalize hc : names.getD x.toNat 0 = c
  by_cases h : runeOk c
  · rw [if_pos h]
    refine evl_eq (.step (G := fun m => run_tutorref02_Show K0 m names [x] 1 (putU c)) (fun m => ?_) (.now fun m => ?_))
    · have hr := h
      unfold runeOk at hr
      have hp := (putU_len c).2
      unfold e_tutorref02_Show
      dsimp only [run_tutorref02_Show]
      unfold s_tutorref02_Show_3
      rw [e0, l0, hc, br_pos (by omega), br_pos (by omega), br_neg (by omega), br_pos (by omega), br_neg (by omega), br_pos (by omega), br_pos hx, br_neg (by omega), br_neg (by omega)]
      by_cases h1 : c ≥ 55296
      · rw [br_pos h1, br_neg (by omega), u8put_eq h]
        try dsimp only
        rw [br_pos (by simp only [List.length_nil, lim]; omega), List.nil_append]
        rfl
      · rw [br_neg h1, u8put_eq h]
        try dsimp only
        rw [br_pos (by simp only [List.length_nil, lim]; omega), List.nil_append]
        rfl
    · dsimp only [run_tutorref02_Show]
      unfold s_tutorref02_Show_3
      rw [l0, br_neg (by omega), enc_of h]
  · rw [if_neg h]
    refine evl_eq (.now fun m => ?_)
    unfold e_tutorref02_Show
    dsimp only [run_tutorref02_Show]
    unfold s_tutorref02_Show_3
    rw [e0, l0, hc, br_pos (by omega), br_pos (by omega), br_neg (by omega), br_pos (by omega), br_neg (by omega), br_pos (by omega), br_pos hx]
    unfold runeOk at h
    by_cases h1 : c < 0
    · rw [br_pos h1]
    · rw [br_neg h1]
      by_cases h2 : c > 1114111
      · rw [br_pos h2]
      · rw [br_neg h2, br_pos (by omega), br_pos (by omega)]

abbrev LT_tutorref02_At := {R : Type} → ByteArray → Int → (Int → Int → Option R) → Option R
abbrev GT_tutorref02_At_15 (R : Type) := ByteArray → Int → Int → Int → Int → Int → Option R
/-- tutor/tutorref02.At -/
def s_tutorref02_At_15 {R : Type} (g34_15 : GT_tutorref02_At_15 R) (K0 : Int → Int → Option R) (s : ByteArray) (i n v least k : Int) : Option R :=
  bi (decide (k < (IntKind.i64.wrap (i + n))))
   (bi (decide (0 ≤ k ∧ k < ((s.size : Nat) : Int)))
    (bi (decide ((IntKind.i64.wrap ((s.data.toList.getD k.toNat 0).toNat : Int)) < 128))
     (K0 0 0)
     (bi (decide ((IntKind.i64.wrap ((s.data.toList.getD k.toNat 0).toNat : Int)) ≥ 192))
      (K0 0 0)
      (g34_15 s i n (IntKind.i64.wrap ((IntKind.i64.wrap ((IntKind.i64.wrap (v * 64)) + (IntKind.i64.wrap ((s.data.toList.getD k.toNat 0).toNat : Int)))) - 128)) least (IntKind.i64.wrap (k + 1)))))
    none)
   (bi (decide (v < least))
    (K0 0 0)
    (bi (decide (v > 1114111))
     (K0 0 0)
     (bi (decide (v ≥ 55296))
      (bi (decide (v ≤ 57343))
       (K0 0 0)
       (K0 (IntKind.i32.wrap v) n))
      (K0 (IntKind.i32.wrap v) n))))

/-- tutor/tutorref02.At -/
def e_tutorref02_At {R : Type} (g34_15 : GT_tutorref02_At_15 R) (K0 : Int → Int → Option R) (s : ByteArray) (i : Int) : Option R :=
  bi (decide (0 ≤ i ∧ i < ((s.size : Nat) : Int)))
   (bi (decide ((IntKind.i64.wrap ((s.data.toList.getD i.toNat 0).toNat : Int)) < 128))
    (K0 (IntKind.i32.wrap (IntKind.i64.wrap ((s.data.toList.getD i.toNat 0).toNat : Int))) 1)
    (bi (decide ((IntKind.i64.wrap ((s.data.toList.getD i.toNat 0).toNat : Int)) ≥ 192))
     (bi (decide ((IntKind.i64.wrap ((s.data.toList.getD i.toNat 0).toNat : Int)) < 224))
      (bi (decide ((IntKind.i64.wrap ((s.size : Int) - i)) < 2))
       (K0 0 0)
       (g34_15 s i 2 (IntKind.i64.wrap ((IntKind.i64.wrap ((s.data.toList.getD i.toNat 0).toNat : Int)) - 192)) 128 (IntKind.i64.wrap (i + 1))))
      (bi (decide ((IntKind.i64.wrap ((s.data.toList.getD i.toNat 0).toNat : Int)) ≥ 224))
       (bi (decide ((IntKind.i64.wrap ((s.data.toList.getD i.toNat 0).toNat : Int)) < 240))
        (bi (decide ((IntKind.i64.wrap ((s.size : Int) - i)) < 3))
         (K0 0 0)
         (g34_15 s i 3 (IntKind.i64.wrap ((IntKind.i64.wrap ((s.data.toList.getD i.toNat 0).toNat : Int)) - 224)) 2048 (IntKind.i64.wrap (i + 1))))
        (bi (decide ((IntKind.i64.wrap ((s.data.toList.getD i.toNat 0).toNat : Int)) ≥ 240))
         (bi (decide ((IntKind.i64.wrap ((s.data.toList.getD i.toNat 0).toNat : Int)) < 248))
          (bi (decide ((IntKind.i64.wrap ((s.size : Int) - i)) < 4))
           (K0 0 0)
           (g34_15 s i 4 (IntKind.i64.wrap ((IntKind.i64.wrap ((s.data.toList.getD i.toNat 0).toNat : Int)) - 240)) 65536 (IntKind.i64.wrap (i + 1))))
          (K0 0 0))
         (K0 0 0)))
       (bi (decide ((IntKind.i64.wrap ((s.data.toList.getD i.toNat 0).toNat : Int)) ≥ 240))
        (bi (decide ((IntKind.i64.wrap ((s.data.toList.getD i.toNat 0).toNat : Int)) < 248))
         (bi (decide ((IntKind.i64.wrap ((s.size : Int) - i)) < 4))
          (K0 0 0)
          (g34_15 s i 4 (IntKind.i64.wrap ((IntKind.i64.wrap ((s.data.toList.getD i.toNat 0).toNat : Int)) - 240)) 65536 (IntKind.i64.wrap (i + 1))))
         (K0 0 0))
        (K0 0 0))))
     (bi (decide ((IntKind.i64.wrap ((s.data.toList.getD i.toNat 0).toNat : Int)) ≥ 224))
      (bi (decide ((IntKind.i64.wrap ((s.data.toList.getD i.toNat 0).toNat : Int)) < 240))
       (bi (decide ((IntKind.i64.wrap ((s.size : Int) - i)) < 3))
        (K0 0 0)
        (g34_15 s i 3 (IntKind.i64.wrap ((IntKind.i64.wrap ((s.data.toList.getD i.toNat 0).toNat : Int)) - 224)) 2048 (IntKind.i64.wrap (i + 1))))
       (bi (decide ((IntKind.i64.wrap ((s.data.toList.getD i.toNat 0).toNat : Int)) ≥ 240))
        (bi (decide ((IntKind.i64.wrap ((s.data.toList.getD i.toNat 0).toNat : Int)) < 248))
         (bi (decide ((IntKind.i64.wrap ((s.size : Int) - i)) < 4))
          (K0 0 0)
          (g34_15 s i 4 (IntKind.i64.wrap ((IntKind.i64.wrap ((s.data.toList.getD i.toNat 0).toNat : Int)) - 240)) 65536 (IntKind.i64.wrap (i + 1))))
         (K0 0 0))
        (K0 0 0)))
      (bi (decide ((IntKind.i64.wrap ((s.data.toList.getD i.toNat 0).toNat : Int)) ≥ 240))
       (bi (decide ((IntKind.i64.wrap ((s.data.toList.getD i.toNat 0).toNat : Int)) < 248))
        (bi (decide ((IntKind.i64.wrap ((s.size : Int) - i)) < 4))
         (K0 0 0)
         (g34_15 s i 4 (IntKind.i64.wrap ((IntKind.i64.wrap ((s.data.toList.getD i.toNat 0).toNat : Int)) - 240)) 65536 (IntKind.i64.wrap (i + 1))))
        (K0 0 0))
       (K0 0 0)))))
   none

def run_tutorref02_At {R : Type} (K0 : Int → Int → Option R) : Nat → ByteArray → Int → Int → Int → Int → Int → Option R
  | 0 => fun _ _ _ _ _ _ => none
  | n + 1 => s_tutorref02_At_15 (run_tutorref02_At K0 n) K0

def l_tutorref02_At {R : Type} (s : ByteArray) (i : Int) (K0 : Int → Int → Option R) : Option R := evl fun fuel => e_tutorref02_At (run_tutorref02_At K0 fuel) K0 s i

theorem ok_tutorref02_At {R : Type} (s : ByteArray) (i : Int) (K0 : Int → Int → Option R) {r : R} (h : l_tutorref02_At s i K0 = some r) : ∃ fuel, e_tutorref02_At (run_tutorref02_At K0 fuel) K0 s i = some r := evl_ok h

theorem at_step {R : Type} {K0 : Int → Int → Option R} {s : ByteArray} {n v least : Int} {k : Nat} (m : Nat) (hk : (k : Int) < n) (hn : n ≤ 4) (hs : k < s.size) {b : Int} (e : (bts s).getD k 0 = b) (hb : 128 ≤ b ∧ b < 192) (hv : 0 ≤ v ∧ v < 1000000000) :
    run_tutorref02_At K0 (m + 1) s 0 n v least (k : Int) = run_tutorref02_At K0 m s 0 n (v * 64 + b - 128) least ((k + 1 : Nat) : Int) := by
  dsimp only [run_tutorref02_At]
  unfold s_tutorref02_At_15
  rw [Int.toNat_natCast, bts_at, e, wr b (by omega) (by omega), wr (0 + n) (by omega) (by omega), br_pos (by omega), br_pos (by omega), br_neg (by omega), br_neg (by omega), wr (v * 64) (by omega) (by omega), wr (v * 64 + b) (by omega) (by omega), wr (v * 64 + b - 128) (by omega) (by omega), wr ((k : Int) + 1) (by omega) (by omega)]
  rfl

theorem at_end {R : Type} {K0 : Int → Int → Option R} {s : ByteArray} {n v least : Int} (m : Nat) (hn : 0 ≤ n ∧ n ≤ 4) (h : runeOk v) (hl : least ≤ v) :
    run_tutorref02_At K0 (m + 1) s 0 n v least n = K0 v n := by
  unfold runeOk at h
  dsimp only [run_tutorref02_At]
  unfold s_tutorref02_At_15
  rw [wr (0 + n) (by omega) (by omega), br_neg (by omega), br_neg (by omega), br_neg (by omega), wr32 v (by omega) (by omega)]
  by_cases h1 : v ≥ 55296
  · rw [br_pos h1, br_neg (by omega)]
  · rw [br_neg h1]

theorem at_eq {R : Type} {c : Int} (h : runeOk c) (K0 : Int → Int → Option R) : l_tutorref02_At (Utf8.encode c) 0 K0 = K0 c ((Utf8.encode c).size : Int) := by
  have hr := h
  unfold runeOk at hr
  have hb := enc_bts h
  have hz := bts_size (Utf8.encode c)
  generalize Utf8.encode c = s at *
  rw [← hz, hb]
  rw [hb] at hz
  have e0 : (s.data.toList.getD (0 : Int).toNat 0).toNat = (s.data.toList.getD 0 0).toNat := rfl
  unfold l_tutorref02_At
  unfold putU at *
  by_cases h1 : c < 128
  · rw [if_pos h1] at *
    refine evl_eq (.now fun m => ?_)
    unfold e_tutorref02_At
    have hs : s.size = 1 := hz.symm
    rw [e0, bts_at, hb, show ([c] : List Int).getD 0 0 = c from rfl, wr c (by omega) (by omega), br_pos (by omega), br_pos h1, wr32 c (by omega) (by omega)]
    rfl
  · rw [if_neg h1] at *
    by_cases h2 : c < 2048
    · rw [if_pos h2] at *
      have hs : s.size = 2 := hz.symm
      refine evl_eq (.step (G := fun m => run_tutorref02_At K0 m s 0 2 c 128 2) (fun m => ?_) (.now fun m => at_end m (by omega) h (by omega)))
      unfold e_tutorref02_At
      rw [e0, bts_at, hb, show ([192 + c / 64, 128 + c % 64] : List Int).getD 0 0 = 192 + c / 64 from rfl, wr (192 + c / 64) (by omega) (by omega), hs, wr (((2 : Nat) : Int) - 0) (by omega) (by omega), wr (192 + c / 64 - 192) (by omega) (by omega)]
      rw [br_pos (by omega), br_neg (by omega), br_pos (by omega), br_pos (by omega), br_neg (by omega)]
      refine (at_step (k := 1) m (by omega) (by omega) (by omega) (b := 128 + c % 64) (by rw [hb]; rfl) (by omega) (by omega)).trans ?_
      congr 1
      omega
    · rw [if_neg h2] at *
      by_cases h3 : c < 65536
      · rw [if_pos h3] at *
        have hs : s.size = 3 := hz.symm
        refine evl_eq (.step (G := fun m => run_tutorref02_At K0 m s 0 3 ((224 + c / 4096 - 224) * 64 + (128 + c / 64 % 64) - 128) 2048 2) (fun m => ?_) (.step (G := fun m => run_tutorref02_At K0 m s 0 3 c 2048 3) (fun m => ?_) (.now fun m => at_end m (by omega) h (by omega))))
        · unfold e_tutorref02_At
          rw [e0, bts_at, hb, show ([224 + c / 4096, 128 + c / 64 % 64, 128 + c % 64] : List Int).getD 0 0 = 224 + c / 4096 from rfl, wr (224 + c / 4096) (by omega) (by omega), hs, wr (((3 : Nat) : Int) - 0) (by omega) (by omega), wr (224 + c / 4096 - 224) (by omega) (by omega)]
          rw [br_pos (by omega), br_neg (by omega), br_pos (by omega), br_neg (by omega), br_pos (by omega), br_pos (by omega), br_neg (by omega)]
          exact at_step (k := 1) m (by omega) (by omega) (by omega) (b := 128 + c / 64 % 64) (by rw [hb]; rfl) (by omega) (by omega)
        · refine (at_step (k := 2) m (by omega) (by omega) (by omega) (b := 128 + c % 64) (by rw [hb]; rfl) (by omega) (by omega)).trans ?_
          congr 1
          omega
      · rw [if_neg h3] at *
        have hs : s.size = 4 := hz.symm
        refine evl_eq (.step (G := fun m => run_tutorref02_At K0 m s 0 4 ((240 + c / 262144 - 240) * 64 + (128 + c / 4096 % 64) - 128) 65536 2) (fun m => ?_) (.step (G := fun m => run_tutorref02_At K0 m s 0 4 (((240 + c / 262144 - 240) * 64 + (128 + c / 4096 % 64) - 128) * 64 + (128 + c / 64 % 64) - 128) 65536 3) (fun m => ?_) (.step (G := fun m => run_tutorref02_At K0 m s 0 4 c 65536 4) (fun m => ?_) (.now fun m => at_end m (by omega) h (by omega)))))
        · unfold e_tutorref02_At
          rw [e0, bts_at, hb, show ([240 + c / 262144, 128 + c / 4096 % 64, 128 + c / 64 % 64, 128 + c % 64] : List Int).getD 0 0 = 240 + c / 262144 from rfl, wr (240 + c / 262144) (by omega) (by omega), hs, wr (((4 : Nat) : Int) - 0) (by omega) (by omega), wr (240 + c / 262144 - 240) (by omega) (by omega)]
          rw [br_pos (by omega), br_neg (by omega), br_pos (by omega), br_neg (by omega), br_pos (by omega), br_neg (by omega), br_pos (by omega), br_pos (by omega), br_neg (by omega)]
          exact at_step (k := 1) m (by omega) (by omega) (by omega) (b := 128 + c / 4096 % 64) (by rw [hb]; rfl) (by omega) (by omega)
        · exact at_step (k := 2) m (by omega) (by omega) (by omega) (b := 128 + c / 64 % 64) (by rw [hb]; rfl) (by omega) (by omega)
        · refine (at_step (k := 3) m (by omega) (by omega) (by omega) (b := 128 + c % 64) (by rw [hb]; rfl) (by omega) (by omega)).trans ?_
          congr 1
          omega

abbrev LT_tutorref02_place := {R : Type} → (List Int) → Int → (Int → Option R) → Option R
abbrev GT_tutorref02_place_2 (R : Type) := (List Int) → Int → Int → Option R
/-- tutor/tutorref02.place -/
def s_tutorref02_place_2 {R : Type} (g35_2 : GT_tutorref02_place_2 R) (K0 : Int → Option R) (names : List Int) (c i : Int) : Option R :=
  bi (decide (i < (names.length : Int)))
   (bi (decide (0 ≤ i ∧ i < ((names.length : Nat) : Int)))
    (bi ((names.getD i.toNat 0) == c)
     (K0 i)
     (g35_2 names c (IntKind.i64.wrap (i + 1))))
    none)
   (K0 (-1))

/-- tutor/tutorref02.place -/
def e_tutorref02_place {R : Type} (g35_2 : GT_tutorref02_place_2 R) (K0 : Int → Option R) (names : List Int) (c : Int) : Option R :=
  g35_2 names c 0

def run_tutorref02_place {R : Type} (K0 : Int → Option R) : Nat → (List Int) → Int → Int → Option R
  | 0 => fun _ _ _ => none
  | n + 1 => s_tutorref02_place_2 (run_tutorref02_place K0 n) K0

def l_tutorref02_place {R : Type} (names : List Int) (c : Int) (K0 : Int → Option R) : Option R := evl fun fuel => e_tutorref02_place (run_tutorref02_place K0 fuel) K0 names c

theorem ok_tutorref02_place {R : Type} (names : List Int) (c : Int) (K0 : Int → Option R) {r : R} (h : l_tutorref02_place names c K0 = some r) : ∃ fuel, e_tutorref02_place (run_tutorref02_place K0 fuel) K0 names c = some r := evl_ok h

theorem place0_eq {R : Type} (c : Int) (K0 : Int → Option R) : l_tutorref02_place [] c K0 = K0 (-1) := by
  unfold l_tutorref02_place
  refine evl_eq (.now fun m => ?_)
  unfold e_tutorref02_place
  dsimp only [run_tutorref02_place]
  unfold s_tutorref02_place_2
  rw [br_neg (by simp)]

abbrev LT_tutorref02_Parse := {R : Type} → ByteArray → (Int → Int → (List Int) → Option R) → Option R
abbrev GT_tutorref02_Parse_5 (R : Type) := ByteArray → Int → (List Int) → Option R
/-- tutor/tutorref02.Parse -/
def s_tutorref02_Parse_5 {R : Type} (g26_5 : GT_tutorref02_Parse_5 R) (K0 : Int → Int → (List Int) → Option R) (s : ByteArray) (i : Int) (o0 : List Int) : Option R :=
  bi (decide (i < (s.size : Int)))
   (l_tutorref02_At s i
    (fun r1 r2 =>
     bi (r2 == 0)
      (K0 20 i ([] : List Int))
      (bi (decide (r1 < 33))
       (K0 20 i ([] : List Int))
       (bi (r1 == 127)
        (K0 20 i ([] : List Int))
        (l_tutorref02_place o0 r1
         (fun r3 =>
          bi (decide (r3 ≥ 0))
           (K0 21 i ([] : List Int))
           (bi ((o0.length : Int) == 64)
            (K0 3 i ([] : List Int))
            (bi (decide ((o0.length + [r1].length) * 4 ≤ lim))
             (g26_5 s (IntKind.i64.wrap (i + r2)) (o0 ++ [r1]))
             none))))))))
   (K0 0 (s.size : Int) o0)

/-- tutor/tutorref02.Parse -/
def e_tutorref02_Parse {R : Type} (g26_5 : GT_tutorref02_Parse_5 R) (K0 : Int → Int → (List Int) → Option R) (s : ByteArray) : Option R :=
  bi ((s.size : Int) == 0)
   (K0 4 0 ([] : List Int))
   (g26_5 s 0 ([] : List Int))

def run_tutorref02_Parse {R : Type} (K0 : Int → Int → (List Int) → Option R) : Nat → ByteArray → Int → (List Int) → Option R
  | 0 => fun _ _ _ => none
  | n + 1 => s_tutorref02_Parse_5 (run_tutorref02_Parse K0 n) K0

def l_tutorref02_Parse {R : Type} (s : ByteArray) (K0 : Int → Int → (List Int) → Option R) : Option R := evl fun fuel => e_tutorref02_Parse (run_tutorref02_Parse K0 fuel) K0 s

theorem ok_tutorref02_Parse {R : Type} (s : ByteArray) (K0 : Int → Int → (List Int) → Option R) {r : R} (h : l_tutorref02_Parse s K0 = some r) : ∃ fuel, e_tutorref02_Parse (run_tutorref02_Parse K0 fuel) K0 s = some r := evl_ok h

theorem refparse1_eq {R : Type} {c : Int} (h : runeOk c) (K0 : Int → Int → (List Int) → Option R) :
    l_tutorref02_Parse (Utf8.encode c) K0 = if 33 ≤ c ∧ c ≠ 127 then K0 0 ((Utf8.encode c).size : Int) [c] else K0 20 0 [] := by
  have hz := bts_size (Utf8.encode c)
  rw [enc_bts h] at hz
  have hp := putU_len c
  have hs : 1 ≤ (Utf8.encode c).size ∧ (Utf8.encode c).size ≤ 4 := by omega
  unfold l_tutorref02_Parse
  by_cases hc : 33 ≤ c ∧ c ≠ 127
  · rw [if_pos hc]
    refine evl_eq (.step (G := fun m => run_tutorref02_Parse K0 m (Utf8.encode c) ((Utf8.encode c).size : Int) [c]) (fun m => ?_) (.now fun m => ?_))
    · unfold e_tutorref02_Parse
      rw [br_eq' (by omega)]
      dsimp only [run_tutorref02_Parse]
      unfold s_tutorref02_Parse_5
      rw [br_pos (by omega), at_eq h]
      try dsimp only
      rw [br_eq' (by omega), br_neg (by omega), br_eq' hc.2, place0_eq]
      try dsimp only
      rw [br_neg (by omega), br_eq' (by decide), br_pos (by simp [lim]), wr _ (by omega) (by omega), Int.zero_add]
      rfl
    · dsimp only [run_tutorref02_Parse]
      unfold s_tutorref02_Parse_5
      rw [br_neg (by omega)]
  · rw [if_neg hc]
    refine evl_eq (.now fun m => ?_)
    unfold e_tutorref02_Parse
    rw [br_eq' (by omega)]
    dsimp only [run_tutorref02_Parse]
    unfold s_tutorref02_Parse_5
    rw [br_pos (by omega), at_eq h]
    try dsimp only
    rw [br_eq' (by omega)]
    by_cases h1 : c < 33
    · rw [br_pos h1]
    · rw [br_neg h1, br_eq (by omega)]

abbrev LT_tutorref09_Label := {R : Type} → (List Int) → Int → (ByteArray → Int → Option R) → Option R
/-- tutor/tutorref09.Label -/
def l_tutorref09_Label {R : Type} (names : List Int) (x : Int) (K0 : ByteArray → Int → Option R) : Option R :=
  bi (decide (x < 0))
   (K0 ByteArray.empty 10)
   (bi (decide (x ≥ (names.length : Int)))
    (K0 ByteArray.empty 10)
    (l_tutorref02_Show names [x]
     (fun r1 r2 =>
      bi (r2 != 0)
       (K0 ByteArray.empty 20)
       (l_tutorref02_Parse r1
        (fun r3 r4 r5 =>
         bi (r3 != 0)
          (K0 ByteArray.empty 20)
          (bi (r1.toList == (ByteArray.mk #[34]).toList)
           (bi (catOk (ByteArray.mk #[92]) r1)
            (K0 ((ByteArray.mk #[92]) ++ r1) 0)
            none)
           (bi (r1.toList == (ByteArray.mk #[92]).toList)
            (bi (catOk (ByteArray.mk #[92]) r1)
             (K0 ((ByteArray.mk #[92]) ++ r1) 0)
             none)
            (K0 r1 0))))))))

theorem reflabel_eq {R : Type} (names : List Int) (x : Int) (K0 : ByteArray → Int → Option R) : l_tutorref09_Label names x K0 = K0 (labelS names x).1 (labelS names x).2 := by
  unfold l_tutorref09_Label labelS
  by_cases h1 : x < 0
  · rw [br_pos h1, if_pos (.inl h1)]
  by_cases h2 : x ≥ names.length
  · rw [br_neg h1, br_pos h2, if_pos (.inr h2)]
  rw [br_neg h1, br_neg h2, if_neg (by omega), refshow1_eq names (by omega)]
  generalize names.getD x.toNat 0 = c
  by_cases h3 : runeOk c
  · rw [if_pos h3]
    try dsimp only
    rw [br_ne' rfl, refparse1_eq h3]
    by_cases h4 : 33 ≤ c ∧ c ≠ 127
    · have hsz : (Utf8.encode c).size ≤ 4 := by rw [← bts_size, enc_bts h3]; exact (putU_len c).2
      have hb : (ByteArray.mk #[92]).size = 1 := rfl
      rw [if_pos h4, if_pos ⟨h3, h4⟩]
      try dsimp only
      rw [br_ne' rfl, str_eq, str_eq, enc_bts h3, show bts (ByteArray.mk #[34]) = [34] from rfl, show bts (ByteArray.mk #[92]) = [92] from rfl]
      unfold labB
      by_cases h6 : c = 34
      · rw [br_pos ((putU_one h3 (by decide)).2 h6), br_cat (by omega), if_pos (.inl h6)]
      · rw [br_neg (fun e => h6 ((putU_one h3 (by decide)).1 e))]
        by_cases h7 : c = 92
        · rw [br_pos ((putU_one h3 (by decide)).2 h7), br_cat (by omega), if_pos (.inr h7)]
        · rw [br_neg (fun e => h7 ((putU_one h3 (by decide)).1 e)), if_neg (by omega)]
    · rw [if_neg h4, if_neg (fun h => h4 h.2)]
      try dsimp only
      rw [br_ne (by decide)]
  · rw [if_neg h3, if_neg (fun h => h3 h.1)]
    try dsimp only
    rw [br_ne (by decide)]

abbrev LT_tutorref08_Put := {R : Type} → Int → ((List Int) → Option R) → Option R
/-- tutor/tutorref08.Put -/
def e_tutorref08_Put (l_tutorref08_Put : {R : Type} → Int → ((List Int) → Option R) → Option R) {R : Type} (n : Int) (K0 : (List Int) → Option R) : Option R :=
  bi (decide (n < 0))
   (bi (decide (n > (-10)))
    (bi (decide (([45].length + [IntKind.u8.wrap (IntKind.i64.wrap (48 - n))].length) * 1 ≤ lim))
     (K0 ([45] ++ [IntKind.u8.wrap (IntKind.i64.wrap (48 - n))]))
     none)
    (bi (decide (n < 0))
     (l_tutorref08_Put (IntKind.i64.wrap (n.tdiv 10))
      (fun r1 =>
       bi (decide ((r1.length + [IntKind.u8.wrap (IntKind.i64.wrap (48 - (n.tmod 10)))].length) * 1 ≤ lim))
        (K0 (r1 ++ [IntKind.u8.wrap (IntKind.i64.wrap (48 - (n.tmod 10)))]))
        none))
     (bi (decide (n < 10))
      (K0 [IntKind.u8.wrap (IntKind.i64.wrap (48 + n))])
      (l_tutorref08_Put (IntKind.i64.wrap (n.tdiv 10))
       (fun r2 =>
        bi (decide ((r2.length + [IntKind.u8.wrap (IntKind.i64.wrap (48 + (n.tmod 10)))].length) * 1 ≤ lim))
         (K0 (r2 ++ [IntKind.u8.wrap (IntKind.i64.wrap (48 + (n.tmod 10)))]))
         none)))))
   (bi (decide (n < 0))
    (l_tutorref08_Put (IntKind.i64.wrap (n.tdiv 10))
     (fun r3 =>
      bi (decide ((r3.length + [IntKind.u8.wrap (IntKind.i64.wrap (48 - (n.tmod 10)))].length) * 1 ≤ lim))
       (K0 (r3 ++ [IntKind.u8.wrap (IntKind.i64.wrap (48 - (n.tmod 10)))]))
       none))
    (bi (decide (n < 10))
     (K0 [IntKind.u8.wrap (IntKind.i64.wrap (48 + n))])
     (l_tutorref08_Put (IntKind.i64.wrap (n.tdiv 10))
      (fun r4 =>
       bi (decide ((r4.length + [IntKind.u8.wrap (IntKind.i64.wrap (48 + (n.tmod 10)))].length) * 1 ≤ lim))
        (K0 (r4 ++ [IntKind.u8.wrap (IntKind.i64.wrap (48 + (n.tmod 10)))]))
        none))))

def run_tutorref08_Put : Nat → {R : Type} → Int → ((List Int) → Option R) → Option R
  | 0, _, _, _ => none
  | fuel + 1, _, n, K0 => e_tutorref08_Put (@run_tutorref08_Put fuel) n K0

def l_tutorref08_Put {R : Type} (n : Int) (K0 : (List Int) → Option R) : Option R := bi (decide (inI n)) (K0 (itoaI n)) none

theorem rput_run : ∀ (k : Nat) (n : Int), n.natAbs < k → inI n → ∃ m, ∀ (R : Type) (K0 : List Int → Option R), run_tutorref08_Put m n K0 = K0 (itoaI n)
  | 0, n, h, _ => absurd h (Nat.not_lt_zero _)
  | k + 1, n, h, hn => by
    have hn' := hn
    unfold inI at hn'
    by_cases c0 : n > -10 ∧ n < 10
    · refine ⟨1, fun R K0 => ?_⟩
      show e_tutorref08_Put (@run_tutorref08_Put 0) n K0 = _
      unfold e_tutorref08_Put
      by_cases c1 : n < 0
      · rw [br_pos c1, br_pos c0.1, wr (48 - n) (by omega) (by omega), wr8 (48 - n) (by omega) (by omega), itoaI_mone c1 c0.1]
        rfl
      · rw [br_neg c1, br_neg c1, br_pos c0.2, wr (48 + n) (by omega) (by omega), wr8 (48 + n) (by omega) (by omega), itoaI_one (by omega) c0.2]
    · have hd : (n.tdiv 10).natAbs < k ∧ inI (n.tdiv 10) ∧ -10 < n.tmod 10 ∧ n.tmod 10 < 10 ∧ (n < 0 → n.tmod 10 ≤ 0) ∧ (¬ n < 0 → 0 ≤ n.tmod 10) := by
        unfold inI
        by_cases c : n < 0
        · obtain ⟨u, rfl⟩ : ∃ u : Nat, n = -(u : Int) := ⟨n.natAbs, by omega⟩
          rw [Int.neg_tdiv, Int.tdiv_eq_ediv_of_nonneg (by omega), Int.neg_tmod, Int.tmod_eq_emod_of_nonneg (by omega)]
          omega
        · rw [Int.tdiv_eq_ediv_of_nonneg (by omega), Int.tmod_eq_emod_of_nonneg (by omega)]
          omega
      obtain ⟨hk, hi, hm⟩ := hd
      obtain ⟨m, ih⟩ := rput_run k (n.tdiv 10) hk hi
      have hl := itoaI_len hi
      have hi' := hi
      unfold inI at hi'
      refine ⟨m + 1, fun R K0 => ?_⟩
      show e_tutorref08_Put (@run_tutorref08_Put m) n K0 = _
      have hlim : ((itoaI (n.tdiv 10)).length + ([0] : List Int).length) * 1 ≤ lim := by
        unfold lim
        simp
        omega
      rw [itoaI_step c0]
      unfold e_tutorref08_Put
      by_cases c1 : n < 0
      · rw [br_pos c1, br_neg (by omega), br_pos c1, wr (n.tdiv 10) (by omega) (by omega), ih, wr (48 - n.tmod 10) (by omega) (by omega), wr8 (48 - n.tmod 10) (by omega) (by omega), if_pos c1]
        exact br_pos hlim
      · rw [br_neg c1, br_neg c1, br_neg (by omega), wr (n.tdiv 10) (by omega) (by omega), ih, wr (48 + n.tmod 10) (by omega) (by omega), wr8 (48 + n.tmod 10) (by omega) (by omega), if_neg c1]
        exact br_pos hlim

theorem ok_tutorref08_Put {R : Type} (n : Int) (K0 : (List Int) → Option R) {r : R} (h : l_tutorref08_Put n K0 = some r) : ∃ m, run_tutorref08_Put m n K0 = some r := by
  unfold l_tutorref08_Put at h
  rcases bi_some h with ⟨hs, h⟩ | ⟨_, h⟩
  · obtain ⟨m, hm⟩ := rput_run (n.natAbs + 1) n (by omega) (of_decide_eq_true hs)
    exact ⟨m, by rw [hm]; exact h⟩
  · cases h

theorem rput_eq {R : Type} {n : Int} (h : inI n) (K0 : List Int → Option R) : l_tutorref08_Put n K0 = K0 (itoaI n) := br_pos h

abbrev LT_tutorref09_num := {R : Type} → Int → (ByteArray → Option R) → Option R
/-- tutor/tutorref09.num -/
def l_tutorref09_num {R : Type} (n : Int) (K0 : ByteArray → Option R) : Option R :=
  l_tutorref08_Put n
   (fun r1 =>
    K0 (ofBts r1))

theorem rdnum_eq {R : Type} {n : Int} (h : inI n) (K0 : ByteArray → Option R) : l_tutorref09_num n K0 = K0 (ofBts (itoaI n)) := by
  unfold l_tutorref09_num
  rw [rput_eq h]

abbrev LT_tutorref09_Dot := {R : Type} → Int → Int → Int → Int → (List Int) → (List Int) → (List Int) → (Int → (List Int) → Option R) → Option R
abbrev GT_tutorref09_Dot_8 (R : Type) := (List Int) → Int → Int → Int → Int → Int → (List Int) → (List Int) → (List ByteArray) → Option R
abbrev GT_tutorref09_Dot_16 (R : Type) := Int → Int → Int → Int → Int → (List Int) → (List Int) → (List ByteArray) → (List ByteArray) → Option R
abbrev GT_tutorref09_Dot_23 (R : Type) := Int → Int → Int → Int → Int → (List Int) → (List Int) → (List ByteArray) → (List ByteArray) → Option R
abbrev GT_tutorref09_Dot_26 (R : Type) := Int → Int → Int → Int → Int → Int → (List Int) → (List Int) → (List ByteArray) → (List ByteArray) → Option R
abbrev GT_tutorref09_Dot_34 (R : Type) := Int → (List ByteArray) → (List Int) → Option R
/-- tutor/tutorref09.Dot -/
def s_tutorref09_Dot_8 {R : Type} (g10_8 : GT_tutorref09_Dot_8 R) (g10_16 : GT_tutorref09_Dot_16 R) (g10_23 : GT_tutorref09_Dot_23 R) (g10_26 : GT_tutorref09_Dot_26 R) (g10_34 : GT_tutorref09_Dot_34 R) (K0 : Int → (List Int) → Option R) (names : List Int) (x o0 o0_1 o0_2 o0_3 : Int) (o0_4 o0_5 : List Int) (o1 : List ByteArray) : Option R :=
  bi (decide (x < o0_1))
   (l_tutorref09_Label names x
    (fun r3 r4 =>
     bi (r4 != 0)
      (K0 r4 ([] : List Int))
      (bi (decide ((o1.length + [r3].length) * 16 ≤ lim))
       (g10_8 names (IntKind.i64.wrap (x + 1)) o0 o0_1 o0_2 o0_3 o0_4 o0_5 (o1 ++ [r3]))
       none)))
   (g10_16 0 o0 o0_1 o0_2 o0_3 o0_4 o0_5 o1 [(ByteArray.mk #[114, 97, 110, 107, 100, 105, 114, 61, 76, 82]), (ByteArray.mk #[115, 116, 97, 114, 116, 32, 91, 115, 104, 97, 112, 101, 61, 112, 111, 105, 110, 116, 93])])

/-- tutor/tutorref09.Dot -/
def s_tutorref09_Dot_16 {R : Type} (g10_8 : GT_tutorref09_Dot_8 R) (g10_16 : GT_tutorref09_Dot_16 R) (g10_23 : GT_tutorref09_Dot_23 R) (g10_26 : GT_tutorref09_Dot_26 R) (g10_34 : GT_tutorref09_Dot_34 R) (K0 : Int → (List Int) → Option R) (s o0 o0_1 o0_2 o0_3 : Int) (o0_4 o0_5 : List Int) (o1 o2 : List ByteArray) : Option R :=
  bi (decide (s < o0_3))
   (bi (o0 == 1)
    (bi (decide (0 ≤ s ∧ s < ((o0_5.length : Nat) : Int)))
     (bi ((o0_5.getD s.toNat 0) == 1)
      (l_tutorref09_num s
       (fun r5 =>
        bi (catOk r5 (ByteArray.mk #[32, 91, 115, 104, 97, 112, 101, 61, 100, 111, 117, 98, 108, 101, 99, 105, 114, 99, 108, 101, 93]))
         (bi (decide ((o2.length + [r5 ++ (ByteArray.mk #[32, 91, 115, 104, 97, 112, 101, 61, 100, 111, 117, 98, 108, 101, 99, 105, 114, 99, 108, 101, 93])].length) * 16 ≤ lim))
          (g10_16 (IntKind.i64.wrap (s + 1)) o0 o0_1 o0_2 o0_3 o0_4 o0_5 o1 (o2 ++ [r5 ++ (ByteArray.mk #[32, 91, 115, 104, 97, 112, 101, 61, 100, 111, 117, 98, 108, 101, 99, 105, 114, 99, 108, 101, 93])]))
          none)
         none))
      (l_tutorref09_num s
       (fun r6 =>
        bi (catOk r6 (ByteArray.mk #[32, 91, 115, 104, 97, 112, 101, 61, 99, 105, 114, 99, 108, 101, 93]))
         (bi (decide ((o2.length + [r6 ++ (ByteArray.mk #[32, 91, 115, 104, 97, 112, 101, 61, 99, 105, 114, 99, 108, 101, 93])].length) * 16 ≤ lim))
          (g10_16 (IntKind.i64.wrap (s + 1)) o0 o0_1 o0_2 o0_3 o0_4 o0_5 o1 (o2 ++ [r6 ++ (ByteArray.mk #[32, 91, 115, 104, 97, 112, 101, 61, 99, 105, 114, 99, 108, 101, 93])]))
          none)
         none)))
     none)
    (l_tutorref09_num s
     (fun r7 =>
      bi (catOk r7 (ByteArray.mk #[32, 91, 115, 104, 97, 112, 101, 61, 99, 105, 114, 99, 108, 101, 93]))
       (bi (decide ((o2.length + [r7 ++ (ByteArray.mk #[32, 91, 115, 104, 97, 112, 101, 61, 99, 105, 114, 99, 108, 101, 93])].length) * 16 ≤ lim))
        (g10_16 (IntKind.i64.wrap (s + 1)) o0 o0_1 o0_2 o0_3 o0_4 o0_5 o1 (o2 ++ [r7 ++ (ByteArray.mk #[32, 91, 115, 104, 97, 112, 101, 61, 99, 105, 114, 99, 108, 101, 93])]))
        none)
       none)))
   (bi (decide ((o2.length + [(ByteArray.mk #[115, 116, 97, 114, 116, 32, 45, 62, 32, 48])].length) * 16 ≤ lim))
    (g10_23 0 o0 o0_1 o0_2 o0_3 o0_4 o0_5 o1 (o2 ++ [(ByteArray.mk #[115, 116, 97, 114, 116, 32, 45, 62, 32, 48])]))
    none)

/-- tutor/tutorref09.Dot -/
def s_tutorref09_Dot_23 {R : Type} (g10_8 : GT_tutorref09_Dot_8 R) (g10_16 : GT_tutorref09_Dot_16 R) (g10_23 : GT_tutorref09_Dot_23 R) (g10_26 : GT_tutorref09_Dot_26 R) (g10_34 : GT_tutorref09_Dot_34 R) (K0 : Int → (List Int) → Option R) (s o0 o0_1 o0_2 o0_3 : Int) (o0_4 o0_5 : List Int) (o1 o2 : List ByteArray) : Option R :=
  bi (decide (s < o0_3))
   (g10_26 s 0 o0 o0_1 o0_2 o0_3 o0_4 o0_5 o1 o2)
   (bi (decide (0 < [100, 105, 103, 114, 97, 112, 104, 32, 109, 32, 123, 10].length))
    (g10_34 0 o2 [100, 105, 103, 114, 97, 112, 104, 32, 109, 32, 123, 10])
    none)

/-- tutor/tutorref09.Dot -/
def s_tutorref09_Dot_26 {R : Type} (g10_8 : GT_tutorref09_Dot_8 R) (g10_16 : GT_tutorref09_Dot_16 R) (g10_23 : GT_tutorref09_Dot_23 R) (g10_26 : GT_tutorref09_Dot_26 R) (g10_34 : GT_tutorref09_Dot_34 R) (K0 : Int → (List Int) → Option R) (s x o0 o0_1 o0_2 o0_3 : Int) (o0_4 o0_5 : List Int) (o1 o2 : List ByteArray) : Option R :=
  bi (decide (x < o0_1))
   (bi (decide (0 ≤ x ∧ x < ((o1.length : Nat) : Int)))
    (bi (o0 == 2)
     (bi (catOk (o1.getD x.toNat ByteArray.empty) (ByteArray.mk #[47]))
      (bi (decide (0 ≤ (IntKind.i64.wrap ((IntKind.i64.wrap (s * o0_1)) + x)) ∧ (IntKind.i64.wrap ((IntKind.i64.wrap (s * o0_1)) + x)) < ((o0_5.length : Nat) : Int)))
       (l_tutorref09_num (o0_5.getD ((IntKind.i64.wrap ((IntKind.i64.wrap (s * o0_1)) + x)).toNat) 0)
        (fun r8 =>
         bi (catOk ((o1.getD x.toNat ByteArray.empty) ++ (ByteArray.mk #[47])) r8)
          (bi (decide (0 ≤ (IntKind.i64.wrap ((IntKind.i64.wrap (s * o0_1)) + x)) ∧ (IntKind.i64.wrap ((IntKind.i64.wrap (s * o0_1)) + x)) < ((o0_4.length : Nat) : Int)))
           (l_tutorref09_num s
            (fun r9 =>
             bi (catOk r9 (ByteArray.mk #[32, 45, 62, 32]))
              (l_tutorref09_num (o0_4.getD ((IntKind.i64.wrap ((IntKind.i64.wrap (s * o0_1)) + x)).toNat) 0)
               (fun r10 =>
                bi (catOk (r9 ++ (ByteArray.mk #[32, 45, 62, 32])) r10)
                 (bi (catOk ((r9 ++ (ByteArray.mk #[32, 45, 62, 32])) ++ r10) (ByteArray.mk #[32, 91, 108, 97, 98, 101, 108, 61, 34]))
                  (bi (catOk (((r9 ++ (ByteArray.mk #[32, 45, 62, 32])) ++ r10) ++ (ByteArray.mk #[32, 91, 108, 97, 98, 101, 108, 61, 34])) (((o1.getD x.toNat ByteArray.empty) ++ (ByteArray.mk #[47])) ++ r8))
                   (bi (catOk ((((r9 ++ (ByteArray.mk #[32, 45, 62, 32])) ++ r10) ++ (ByteArray.mk #[32, 91, 108, 97, 98, 101, 108, 61, 34])) ++ (((o1.getD x.toNat ByteArray.empty) ++ (ByteArray.mk #[47])) ++ r8)) (ByteArray.mk #[34, 93]))
                    (bi (decide ((o2.length + [((((r9 ++ (ByteArray.mk #[32, 45, 62, 32])) ++ r10) ++ (ByteArray.mk #[32, 91, 108, 97, 98, 101, 108, 61, 34])) ++ (((o1.getD x.toNat ByteArray.empty) ++ (ByteArray.mk #[47])) ++ r8)) ++ (ByteArray.mk #[34, 93])].length) * 16 ≤ lim))
                     (g10_26 s (IntKind.i64.wrap (x + 1)) o0 o0_1 o0_2 o0_3 o0_4 o0_5 o1 (o2 ++ [((((r9 ++ (ByteArray.mk #[32, 45, 62, 32])) ++ r10) ++ (ByteArray.mk #[32, 91, 108, 97, 98, 101, 108, 61, 34])) ++ (((o1.getD x.toNat ByteArray.empty) ++ (ByteArray.mk #[47])) ++ r8)) ++ (ByteArray.mk #[34, 93])]))
                     none)
                    none)
                   none)
                  none)
                 none))
              none))
           none)
          none))
       none)
      none)
     (bi (decide (0 ≤ (IntKind.i64.wrap ((IntKind.i64.wrap (s * o0_1)) + x)) ∧ (IntKind.i64.wrap ((IntKind.i64.wrap (s * o0_1)) + x)) < ((o0_4.length : Nat) : Int)))
      (l_tutorref09_num s
       (fun r11 =>
        bi (catOk r11 (ByteArray.mk #[32, 45, 62, 32]))
         (l_tutorref09_num (o0_4.getD ((IntKind.i64.wrap ((IntKind.i64.wrap (s * o0_1)) + x)).toNat) 0)
          (fun r12 =>
           bi (catOk (r11 ++ (ByteArray.mk #[32, 45, 62, 32])) r12)
            (bi (catOk ((r11 ++ (ByteArray.mk #[32, 45, 62, 32])) ++ r12) (ByteArray.mk #[32, 91, 108, 97, 98, 101, 108, 61, 34]))
             (bi (catOk (((r11 ++ (ByteArray.mk #[32, 45, 62, 32])) ++ r12) ++ (ByteArray.mk #[32, 91, 108, 97, 98, 101, 108, 61, 34])) (o1.getD x.toNat ByteArray.empty))
              (bi (catOk ((((r11 ++ (ByteArray.mk #[32, 45, 62, 32])) ++ r12) ++ (ByteArray.mk #[32, 91, 108, 97, 98, 101, 108, 61, 34])) ++ (o1.getD x.toNat ByteArray.empty)) (ByteArray.mk #[34, 93]))
               (bi (decide ((o2.length + [((((r11 ++ (ByteArray.mk #[32, 45, 62, 32])) ++ r12) ++ (ByteArray.mk #[32, 91, 108, 97, 98, 101, 108, 61, 34])) ++ (o1.getD x.toNat ByteArray.empty)) ++ (ByteArray.mk #[34, 93])].length) * 16 ≤ lim))
                (g10_26 s (IntKind.i64.wrap (x + 1)) o0 o0_1 o0_2 o0_3 o0_4 o0_5 o1 (o2 ++ [((((r11 ++ (ByteArray.mk #[32, 45, 62, 32])) ++ r12) ++ (ByteArray.mk #[32, 91, 108, 97, 98, 101, 108, 61, 34])) ++ (o1.getD x.toNat ByteArray.empty)) ++ (ByteArray.mk #[34, 93])]))
                none)
               none)
              none)
             none)
            none))
         none))
      none))
    none)
   (g10_23 (IntKind.i64.wrap (s + 1)) o0 o0_1 o0_2 o0_3 o0_4 o0_5 o1 o2)

/-- tutor/tutorref09.Dot -/
def s_tutorref09_Dot_34 {R : Type} (g10_8 : GT_tutorref09_Dot_8 R) (g10_16 : GT_tutorref09_Dot_16 R) (g10_23 : GT_tutorref09_Dot_23 R) (g10_26 : GT_tutorref09_Dot_26 R) (g10_34 : GT_tutorref09_Dot_34 R) (K0 : Int → (List Int) → Option R) (i : Int) (o0 : List ByteArray) (o1 : List Int) : Option R :=
  bi (decide (i < (o0.length : Int)))
   (bi (decide (0 ≤ i ∧ i < ((o0.length : Nat) : Int)))
    (both
     (bi (decide ((o1.length + (bts (ByteArray.mk #[32, 32])).length) * 1 ≤ lim))
      (both
       (twice
        (bi (decide (((o1 ++ (bts (ByteArray.mk #[32, 32]))).length + (bts (o0.getD i.toNat ByteArray.empty)).length) * 1 ≤ lim))
         (bi (decide ((((o1 ++ (bts (ByteArray.mk #[32, 32]))) ++ (bts (o0.getD i.toNat ByteArray.empty))).length + [10].length) * 1 ≤ lim))
          (g10_34 (IntKind.i64.wrap (i + 1)) o0 (((o1 ++ (bts (ByteArray.mk #[32, 32]))) ++ (bts (o0.getD i.toNat ByteArray.empty))) ++ [10]))
          none)
         none))
       (bi (decide (((o1 ++ (bts (ByteArray.mk #[32, 32]))).length + (bts (o0.getD i.toNat ByteArray.empty)).length) * 1 ≤ lim))
        (bi (decide ((((o1 ++ (bts (ByteArray.mk #[32, 32]))) ++ (bts (o0.getD i.toNat ByteArray.empty))).length + [10].length) * 1 ≤ lim))
         (g10_34 (IntKind.i64.wrap (i + 1)) o0 (((o1 ++ (bts (ByteArray.mk #[32, 32]))) ++ (bts (o0.getD i.toNat ByteArray.empty))) ++ [10]))
         none)
        none))
      none)
     (both
      (both
       (bi (decide ((o1.length + (bts (ByteArray.mk #[32, 32])).length) * 1 ≤ lim))
        (twice
         (bi (decide (((o1 ++ (bts (ByteArray.mk #[32, 32]))).length + (bts (o0.getD i.toNat ByteArray.empty)).length) * 1 ≤ lim))
          (bi (decide ((((o1 ++ (bts (ByteArray.mk #[32, 32]))) ++ (bts (o0.getD i.toNat ByteArray.empty))).length + [10].length) * 1 ≤ lim))
           (g10_34 (IntKind.i64.wrap (i + 1)) o0 (((o1 ++ (bts (ByteArray.mk #[32, 32]))) ++ (bts (o0.getD i.toNat ByteArray.empty))) ++ [10]))
           none)
          none))
        none)
       (bi (decide ((o1.length + (bts (ByteArray.mk #[32, 32])).length) * 1 ≤ lim))
        (bi (decide (((o1 ++ (bts (ByteArray.mk #[32, 32]))).length + (bts (o0.getD i.toNat ByteArray.empty)).length) * 1 ≤ lim))
         (bi (decide ((((o1 ++ (bts (ByteArray.mk #[32, 32]))) ++ (bts (o0.getD i.toNat ByteArray.empty))).length + [10].length) * 1 ≤ lim))
          (g10_34 (IntKind.i64.wrap (i + 1)) o0 (((o1 ++ (bts (ByteArray.mk #[32, 32]))) ++ (bts (o0.getD i.toNat ByteArray.empty))) ++ [10]))
          none)
         none)
        none))
      (twice
       (bi (decide ((o1.length + (bts (ByteArray.mk #[32, 32])).length) * 1 ≤ lim))
        (bi (decide (((o1 ++ (bts (ByteArray.mk #[32, 32]))).length + (bts (o0.getD i.toNat ByteArray.empty)).length) * 1 ≤ lim))
         (bi (decide ((((o1 ++ (bts (ByteArray.mk #[32, 32]))) ++ (bts (o0.getD i.toNat ByteArray.empty))).length + [10].length) * 1 ≤ lim))
          (g10_34 (IntKind.i64.wrap (i + 1)) o0 (((o1 ++ (bts (ByteArray.mk #[32, 32]))) ++ (bts (o0.getD i.toNat ByteArray.empty))) ++ [10]))
          none)
         none)
        none))))
    none)
   (bi (decide ((o1.length + (bts (ByteArray.mk #[125, 10])).length) * 1 ≤ lim))
    (K0 0 (o1 ++ (bts (ByteArray.mk #[125, 10]))))
    none)

/-- tutor/tutorref09.Dot -/
def e_tutorref09_Dot {R : Type} (g10_8 : GT_tutorref09_Dot_8 R) (g10_16 : GT_tutorref09_Dot_16 R) (g10_23 : GT_tutorref09_Dot_23 R) (g10_26 : GT_tutorref09_Dot_26 R) (g10_34 : GT_tutorref09_Dot_34 R) (K0 : Int → (List Int) → Option R) (m m_1 m_2 m_3 : Int) (m_4 m_5 names : List Int) : Option R :=
  l_tutorref03_Check m m_1 m_2 m_3 m_4 m_5
   (fun r1 r2 =>
    bi (r2 != 0)
     (K0 r2 ([] : List Int))
     (bi ((names.length : Int) != m_1)
      (K0 1 ([] : List Int))
      (g10_8 names 0 m m_1 m_2 m_3 m_4 m_5 ([] : List ByteArray))))

def run_tutorref09_Dot {R : Type} (K0 : Int → (List Int) → Option R) : Nat → ((List Int) → Int → Int → Int → Int → Int → (List Int) → (List Int) → (List ByteArray) → Option R) × (Int → Int → Int → Int → Int → (List Int) → (List Int) → (List ByteArray) → (List ByteArray) → Option R) × (Int → Int → Int → Int → Int → (List Int) → (List Int) → (List ByteArray) → (List ByteArray) → Option R) × (Int → Int → Int → Int → Int → Int → (List Int) → (List Int) → (List ByteArray) → (List ByteArray) → Option R) × (Int → (List ByteArray) → (List Int) → Option R)
  | 0 => (fun _ _ _ _ _ _ _ _ _ => none, fun _ _ _ _ _ _ _ _ _ => none, fun _ _ _ _ _ _ _ _ _ => none, fun _ _ _ _ _ _ _ _ _ _ => none, fun _ _ _ => none)
  | n + 1 => (s_tutorref09_Dot_8 (run_tutorref09_Dot K0 n).1 (run_tutorref09_Dot K0 n).2.1 (run_tutorref09_Dot K0 n).2.2.1 (run_tutorref09_Dot K0 n).2.2.2.1 (run_tutorref09_Dot K0 n).2.2.2.2 K0, s_tutorref09_Dot_16 (run_tutorref09_Dot K0 n).1 (run_tutorref09_Dot K0 n).2.1 (run_tutorref09_Dot K0 n).2.2.1 (run_tutorref09_Dot K0 n).2.2.2.1 (run_tutorref09_Dot K0 n).2.2.2.2 K0, s_tutorref09_Dot_23 (run_tutorref09_Dot K0 n).1 (run_tutorref09_Dot K0 n).2.1 (run_tutorref09_Dot K0 n).2.2.1 (run_tutorref09_Dot K0 n).2.2.2.1 (run_tutorref09_Dot K0 n).2.2.2.2 K0, s_tutorref09_Dot_26 (run_tutorref09_Dot K0 n).1 (run_tutorref09_Dot K0 n).2.1 (run_tutorref09_Dot K0 n).2.2.1 (run_tutorref09_Dot K0 n).2.2.2.1 (run_tutorref09_Dot K0 n).2.2.2.2 K0, s_tutorref09_Dot_34 (run_tutorref09_Dot K0 n).1 (run_tutorref09_Dot K0 n).2.1 (run_tutorref09_Dot K0 n).2.2.1 (run_tutorref09_Dot K0 n).2.2.2.1 (run_tutorref09_Dot K0 n).2.2.2.2 K0)

def l_tutorref09_Dot {R : Type} (m m_1 m_2 m_3 : Int) (m_4 m_5 names : List Int) (K0 : Int → (List Int) → Option R) : Option R := evl fun fuel => e_tutorref09_Dot (run_tutorref09_Dot K0 fuel).1 (run_tutorref09_Dot K0 fuel).2.1 (run_tutorref09_Dot K0 fuel).2.2.1 (run_tutorref09_Dot K0 fuel).2.2.2.1 (run_tutorref09_Dot K0 fuel).2.2.2.2 K0 m m_1 m_2 m_3 m_4 m_5 names

theorem ok_tutorref09_Dot {R : Type} (m m_1 m_2 m_3 : Int) (m_4 m_5 names : List Int) (K0 : Int → (List Int) → Option R) {r : R} (h : l_tutorref09_Dot m m_1 m_2 m_3 m_4 m_5 names K0 = some r) : ∃ fuel, e_tutorref09_Dot (run_tutorref09_Dot K0 fuel).1 (run_tutorref09_Dot K0 fuel).2.1 (run_tutorref09_Dot K0 fuel).2.2.1 (run_tutorref09_Dot K0 fuel).2.2.2.1 (run_tutorref09_Dot K0 fuel).2.2.2.2 K0 m m_1 m_2 m_3 m_4 m_5 names = some r := evl_ok h

theorem st_tutorref09_Dot_8 {R : Type} (K0 : Int → (List Int) → Option R) (fuel : Nat) (names : List Int) (x o0 o0_1 o0_2 o0_3 : Int) (o0_4 o0_5 : List Int) (o1 : List ByteArray) : (run_tutorref09_Dot K0 (fuel + 1)).1 names x o0 o0_1 o0_2 o0_3 o0_4 o0_5 o1 = s_tutorref09_Dot_8 (run_tutorref09_Dot K0 fuel).1 (run_tutorref09_Dot K0 fuel).2.1 (run_tutorref09_Dot K0 fuel).2.2.1 (run_tutorref09_Dot K0 fuel).2.2.2.1 (run_tutorref09_Dot K0 fuel).2.2.2.2 K0 names x o0 o0_1 o0_2 o0_3 o0_4 o0_5 o1 := rfl

theorem st_tutorref09_Dot_16 {R : Type} (K0 : Int → (List Int) → Option R) (fuel : Nat) (s o0 o0_1 o0_2 o0_3 : Int) (o0_4 o0_5 : List Int) (o1 o2 : List ByteArray) : (run_tutorref09_Dot K0 (fuel + 1)).2.1 s o0 o0_1 o0_2 o0_3 o0_4 o0_5 o1 o2 = s_tutorref09_Dot_16 (run_tutorref09_Dot K0 fuel).1 (run_tutorref09_Dot K0 fuel).2.1 (run_tutorref09_Dot K0 fuel).2.2.1 (run_tutorref09_Dot K0 fuel).2.2.2.1 (run_tutorref09_Dot K0 fuel).2.2.2.2 K0 s o0 o0_1 o0_2 o0_3 o0_4 o0_5 o1 o2 := rfl

theorem st_tutorref09_Dot_23 {R : Type} (K0 : Int → (List Int) → Option R) (fuel : Nat) (s o0 o0_1 o0_2 o0_3 : Int) (o0_4 o0_5 : List Int) (o1 o2 : List ByteArray) : (run_tutorref09_Dot K0 (fuel + 1)).2.2.1 s o0 o0_1 o0_2 o0_3 o0_4 o0_5 o1 o2 = s_tutorref09_Dot_23 (run_tutorref09_Dot K0 fuel).1 (run_tutorref09_Dot K0 fuel).2.1 (run_tutorref09_Dot K0 fuel).2.2.1 (run_tutorref09_Dot K0 fuel).2.2.2.1 (run_tutorref09_Dot K0 fuel).2.2.2.2 K0 s o0 o0_1 o0_2 o0_3 o0_4 o0_5 o1 o2 := rfl

theorem st_tutorref09_Dot_26 {R : Type} (K0 : Int → (List Int) → Option R) (fuel : Nat) (s x o0 o0_1 o0_2 o0_3 : Int) (o0_4 o0_5 : List Int) (o1 o2 : List ByteArray) : (run_tutorref09_Dot K0 (fuel + 1)).2.2.2.1 s x o0 o0_1 o0_2 o0_3 o0_4 o0_5 o1 o2 = s_tutorref09_Dot_26 (run_tutorref09_Dot K0 fuel).1 (run_tutorref09_Dot K0 fuel).2.1 (run_tutorref09_Dot K0 fuel).2.2.1 (run_tutorref09_Dot K0 fuel).2.2.2.1 (run_tutorref09_Dot K0 fuel).2.2.2.2 K0 s x o0 o0_1 o0_2 o0_3 o0_4 o0_5 o1 o2 := rfl

theorem st_tutorref09_Dot_34 {R : Type} (K0 : Int → (List Int) → Option R) (fuel : Nat) (i : Int) (o0 : List ByteArray) (o1 : List Int) : (run_tutorref09_Dot K0 (fuel + 1)).2.2.2.2 i o0 o1 = s_tutorref09_Dot_34 (run_tutorref09_Dot K0 fuel).1 (run_tutorref09_Dot K0 fuel).2.1 (run_tutorref09_Dot K0 fuel).2.2.1 (run_tutorref09_Dot K0 fuel).2.2.2.1 (run_tutorref09_Dot K0 fuel).2.2.2.2 K0 i o0 o1 := rfl

theorem rlabels_go {R : Type} {k K O N : Int} {nx ou names : List Int} (hn : (names.length : Int) = K) (hK : 1 ≤ K ∧ K ≤ 64) (hc : ∀ c ∈ names, labOk c) (K0 : Int → (List Int) → Option R) {v : Option R}
    (hv : Reach (fun m => (run_tutorref09_Dot K0 m).1 names (names.length : Int) k K O N nx ou (names.map labB)) v) : ∀ (d i : Nat), i + d = names.length →
    Reach (fun m => (run_tutorref09_Dot K0 m).1 names (i : Int) k K O N nx ou ((names.take i).map labB)) v := by
  intro d
  induction d with
  | zero =>
    intro i hi
    obtain rfl : i = names.length := by omega
    rw [List.take_length]
    exact hv
  | succ d ih =>
    intro i hi
    have hil : i < names.length := by omega
    have ht : (names.take i).length ≤ 64 := by
      rw [List.length_take]
      omega
    have e : (names.take i).map labB ++ [labB names[i]] = (names.take (i + 1)).map labB := by
      rw [List.take_add_one, List.getElem?_eq_getElem hil, List.map_append]
      rfl
    refine .step (fun m => ?_) (ih (i + 1) (by omega))
    dsimp only [run_tutorref09_Dot]
    unfold s_tutorref09_Dot_8
    rw [br_pos (by omega), reflabel_eq, labelS_at hil, if_pos (hc _ (List.getElem_mem hil))]
    try dsimp only
    rw [br_ne' rfl, br_pos (by rw [List.length_map]; simp only [List.length_cons, List.length_nil, lim]; omega), wr _ (by omega) (by omega), e]
    rfl

theorem rlabels_bad {R : Type} {k K O N : Int} {nx ou names : List Int} (hn : (names.length : Int) = K) (hK : 1 ≤ K ∧ K ≤ 64) (K0 : Int → (List Int) → Option R) : ∀ (d i : Nat), i + d = names.length → ¬ (∀ c ∈ names.drop i, labOk c) →
    Reach (fun m => (run_tutorref09_Dot K0 m).1 names (i : Int) k K O N nx ou ((names.take i).map labB)) (K0 20 []) := by
  intro d
  induction d with
  | zero =>
    intro i hi hb
    rw [List.drop_of_length_le (by omega)] at hb
    exact absurd (by simp) hb
  | succ d ih =>
    intro i hi hb
    have hil : i < names.length := by omega
    have hq := all_drop (P := labOk) hil
    have ht : (names.take i).length ≤ 64 := by
      rw [List.length_take]
      omega
    have e : (names.take i).map labB ++ [labB names[i]] = (names.take (i + 1)).map labB := by
      rw [List.take_add_one, List.getElem?_eq_getElem hil, List.map_append]
      rfl
    by_cases hc : labOk names[i]
    · refine .step (fun m => ?_) (ih (i + 1) (by omega) fun h => hb (hq.2 ⟨hc, h⟩))
      dsimp only [run_tutorref09_Dot]
      unfold s_tutorref09_Dot_8
      rw [br_pos (by omega), reflabel_eq, labelS_at hil, if_pos hc]
      try dsimp only
      rw [br_ne' rfl, br_pos (by rw [List.length_map]; simp only [List.length_cons, List.length_nil, lim]; omega), wr _ (by omega) (by omega), e]
      rfl
    · refine .now fun m => ?_
      dsimp only [run_tutorref09_Dot]
      unfold s_tutorref09_Dot_8
      rw [br_pos (by omega), reflabel_eq, labelS_at hil, if_neg hc]
      try dsimp only
      rw [br_ne (by omega)]

theorem rtext_go {R : Type} (K0 : Int → (List Int) → Option R) {ls : List (List Int)} (h8 : ∀ l ∈ ls, isB8 l) (h100 : ∀ l ∈ ls, l.length ≤ 100) (hl : ls.length ≤ 70000) : ∀ (d i : Nat), i + d = ls.length →
    Reach (fun m => (run_tutorref09_Dot K0 m).2.2.2.2 (i : Int) (ls.map ofBts) (partS (ls.take i))) (K0 0 (textS ls)) := by
  have e32 : bts (ByteArray.mk #[32, 32]) = [32, 32] := rfl
  have e125 : bts (ByteArray.mk #[125, 10]) = [125, 10] := rfl
  have hlm : ((ls.map ofBts).length : Int) = ls.length := by rw [List.length_map]
  intro d
  induction d with
  | zero =>
    intro i hi
    obtain rfl : i = ls.length := by omega
    refine .now fun m => ?_
    have hp := part_len h100
    dsimp only [run_tutorref09_Dot]
    unfold s_tutorref09_Dot_34
    rw [hlm, br_neg (by omega), e125, List.take_length, br_pos (by simp only [List.length_cons, List.length_nil, lim]; omega), text_part]
  | succ d ih =>
    intro i hi
    have hil : i < ls.length := by omega
    have hp : (partS (ls.take i)).length ≤ 12 + 103 * ls.length := by
      have := part_len (ls := ls.take i) fun l hl => h100 l (List.mem_of_mem_take hl)
      rw [List.length_take] at this
      omega
    have h1 := h100 _ (List.getElem_mem hil)
    have e : ls.take (i + 1) = ls.take i ++ [ls[i]] := by
      rw [List.take_add_one, List.getElem?_eq_getElem hil]
      rfl
    refine .step (fun m => ?_) (ih (i + 1) (by omega))
    dsimp only [run_tutorref09_Dot]
    unfold s_tutorref09_Dot_34
    simp only [both_same, twice_eq]
    rw [hlm, br_pos (by omega), br_pos (by omega), e32, Int.toNat_natCast, getD_of ByteArray.empty (by rw [List.length_map]; exact hil), List.getElem_map, bts_ofBts (h8 _ (List.getElem_mem hil))]
    rw [br_pos (by simp only [List.length_cons, List.length_nil, lim]; omega), br_pos (by simp only [List.length_append, List.length_cons, List.length_nil, lim]; omega), br_pos (by simp only [List.length_append, List.length_cons, List.length_nil, lim]; omega), wr _ (by omega) (by omega), e, part_snoc]
    unfold lineS
    simp only [List.append_assoc]
    rfl

theorem redge_go {R : Type} {k K O N : Int} {nx ou names : List Int} (D : DotOk k K O N nx ou names) (K0 : Int → (List Int) → Option R) {s : Nat} (hs : s < N.toNat) {v : Option R}
    (hv : Reach (fun m => (run_tutorref09_Dot K0 m).2.2.1 ((s + 1 : Nat) : Int) k K O N nx ou (names.map labB) ((linesEd k K N nx ou names (s * K.toNat + K.toNat)).map ofBts)) v) : ∀ (d x : Nat), x + d = K.toNat →
    Reach (fun m => (run_tutorref09_Dot K0 m).2.2.2.1 (s : Int) (x : Int) k K O N nx ou (names.map labB) ((linesEd k K N nx ou names (s * K.toNat + x)).map ofBts)) v := by
  have hN := D.F.fN
  have hK := D.F.fK
  have hx := D.lenNx
  have hlen := D.len
  intro d
  induction d with
  | zero =>
    intro x hxx
    obtain rfl : x = K.toNat := by omega
    refine .step (fun m => ?_) hv
    dsimp only [run_tutorref09_Dot]
    unfold s_tutorref09_Dot_26
    rw [br_neg (by omega), wr _ (by omega) (by omega)]
    rfl
  | succ d ih =>
    intro x hxx
    refine .step (fun m => ?_) (ih (x + 1) (by omega))
    have hi : s * K.toNat + x < nx.length := by
      rw [hx.1]
      have : s * K.toNat + K.toNat ≤ N.toNat * K.toNat := by
        rw [← Nat.succ_mul]
        exact Nat.mul_le_mul_right _ hs
      omega
    have hll := linesEd_len D (Nat.le_of_lt hi)
    have h8 := edS_B8 D hi
    have hn := D.nxv hi
    have hov := D.ouv (s * K.toNat + x)
    have hd : (s * K.toNat + x) / K.toNat = s := by
      rw [Nat.mul_comm, Nat.mul_add_div (by omega), Nat.div_eq_of_lt (by omega), Nat.add_zero]
    have hm : (s * K.toNat + x) % K.toNat = x := by
      rw [Nat.mul_comm, Nat.mul_add_mod, Nat.mod_eq_of_lt (by omega)]
    obtain ⟨hl1, hl2⟩ := D.lab (x := x) (by omega)
    have hls := labB_size hl1.1
    have a1 : (ofBts (itoaI (s : Int))).size ≤ 21 := by rw [← bts_size, num_bts]; exact itoa_short (by omega)
    have a2 : (ofBts (itoaI (nx.getD (s * K.toNat + x) 0))).size ≤ 21 := by rw [← bts_size, num_bts]; exact itoa_short hn
    have a3 : (ofBts (itoaI (ou.getD (s * K.toNat + x) 0))).size ≤ 21 := by rw [← bts_size, num_bts]; exact itoa_short hov
    have q4 : (ByteArray.mk #[32, 45, 62, 32]).size = 4 := rfl
    have q9 : (ByteArray.mk #[32, 91, 108, 97, 98, 101, 108, 61, 34]).size = 9 := rfl
    have q2 : (ByteArray.mk #[34, 93]).size = 2 := rfl
    have q1 : (ByteArray.mk #[47]).size = 1 := rfl
    have b4 : bts (ByteArray.mk #[32, 45, 62, 32]) = [32, 45, 62, 32] := rfl
    have b9 : bts (ByteArray.mk #[32, 91, 108, 97, 98, 101, 108, 61, 34]) = sLabel := rfl
    have b2 : bts (ByteArray.mk #[34, 93]) = [34, 93] := rfl
    have b1 : bts (ByteArray.mk #[47]) = [47] := rfl
    have hj : IntKind.i64.wrap (IntKind.i64.wrap ((s : Int) * K) + (x : Int)) = ((s * K.toNat + x : Nat) : Int) := by
      have : (s : Int) * K = ((s * K.toNat : Nat) : Int) := by
        rw [Int.natCast_mul, Int.toNat_of_nonneg (by omega)]
      have hi' : s * K.toNat + x < 65537 := by omega
      rw [this]
      generalize s * K.toNat = z at hi' ⊢
      rw [wr (z : Int) (by omega) (by omega), wr _ (by omega) (by omega)]
      omega
    have hnext : linesEd k K N nx ou names (s * K.toNat + (x + 1)) = linesEd k K N nx ou names (s * K.toNat + x) ++ [edS k K nx ou names (s * K.toNat + x)] := linesEd_succ k K N nx ou names (s * K.toNat + x)
    generalize hI : s * K.toNat + x = i at *
    dsimp only [run_tutorref09_Dot]
    unfold s_tutorref09_Dot_26
    rw [hj, br_pos (by omega), br_pos (by rw [List.length_map]; omega), Int.toNat_natCast, Int.toNat_natCast, hl2]
    by_cases hk : k = 2
    · have ho : i < ou.length := by
        have a1 := D.F.fou2 hk
        have a2 := D.F.fnx
        omega
      have e : ofBts (itoaI (s : Int)) ++ ByteArray.mk #[32, 45, 62, 32] ++ ofBts (itoaI (nx.getD i 0)) ++ ByteArray.mk #[32, 91, 108, 97, 98, 101, 108, 61, 34] ++ (labB (names.getD x 0) ++ ByteArray.mk #[47] ++ ofBts (itoaI (ou.getD i 0))) ++ ByteArray.mk #[34, 93] = ofBts (edS k K nx ou names i) := bts_inj (by
        rw [bts_ofBts h8]
        simp only [bts_app, num_bts, lab_bts hl1.1, b4, b9, b2, b1]
        unfold edS onS
        rw [if_pos hk, hd, hm])
      rw [br_eq hk, br_cat (by omega), br_pos (by omega), rdnum_eq (by unfold inI; omega)]
      try dsimp only
      rw [br_cat (by simp only [ByteArray.size_append]; omega), br_pos (by omega), rdnum_eq (by unfold inI; omega)]
      try dsimp only
      rw [br_cat (by omega), rdnum_eq (by unfold inI; omega)]
      try dsimp only
      rw [br_cat (by simp only [ByteArray.size_append]; omega), br_cat (by simp only [ByteArray.size_append]; omega), br_cat (by simp only [ByteArray.size_append]; omega), br_cat (by simp only [ByteArray.size_append]; omega)]
      rw [br_pos (by rw [List.length_map]; simp only [List.length_cons, List.length_nil, lim]; omega), e, wr _ (by omega) (by omega), hnext, List.map_append]
      rfl
    · have e : ofBts (itoaI (s : Int)) ++ ByteArray.mk #[32, 45, 62, 32] ++ ofBts (itoaI (nx.getD i 0)) ++ ByteArray.mk #[32, 91, 108, 97, 98, 101, 108, 61, 34] ++ labB (names.getD x 0) ++ ByteArray.mk #[34, 93] = ofBts (edS k K nx ou names i) := bts_inj (by
        rw [bts_ofBts h8]
        simp only [bts_app, num_bts, lab_bts hl1.1, b4, b9, b2, b1]
        unfold edS onS
        rw [if_neg hk, hd, hm])
      rw [br_eq' hk, br_pos (by omega), rdnum_eq (by unfold inI; omega)]
      try dsimp only
      rw [br_cat (by omega), rdnum_eq (by unfold inI; omega)]
      try dsimp only
      rw [br_cat (by simp only [ByteArray.size_append]; omega), br_cat (by simp only [ByteArray.size_append]; omega), br_cat (by simp only [ByteArray.size_append]; omega), br_cat (by simp only [ByteArray.size_append]; omega)]
      rw [br_pos (by rw [List.length_map]; simp only [List.length_cons, List.length_nil, lim]; omega), e, wr _ (by omega) (by omega), hnext, List.map_append]
      rfl

theorem redges_go {R : Type} {k K O N : Int} {nx ou names : List Int} (D : DotOk k K O N nx ou names) (K0 : Int → (List Int) → Option R) : ∀ (d s : Nat), s + d = N.toNat →
    Reach (fun m => (run_tutorref09_Dot K0 m).2.2.1 (s : Int) k K O N nx ou (names.map labB) ((linesEd k K N nx ou names (s * K.toNat)).map ofBts)) (K0 0 (dotT k K N nx ou names)) := by
  have hN := D.F.fN
  have hK := D.F.fK
  have hx := D.lenNx
  intro d
  induction d with
  | zero =>
    intro s hs
    obtain rfl : s = N.toNat := by omega
    have hll := linesEd_len D (Nat.le_refl _)
    have e3 : [100, 105, 103, 114, 97, 112, 104, 32, 109, 32, 123, 10] = sHead := rfl
    refine .step (fun m => ?_) (rtext_go K0 (linesEd_B8 D (Nat.le_refl _)) hll.2 (by omega) _ 0 (Nat.zero_add _))
    dsimp only [run_tutorref09_Dot]
    unfold s_tutorref09_Dot_23
    rw [br_neg (by omega), br_pos (by decide), ← hx.1, e3]
    simp [partS]
  | succ d ih =>
    intro s hs
    have hv := ih (s + 1) (by omega)
    rw [Nat.succ_mul] at hv
    refine .step (fun m => ?_) (redge_go D K0 (s := s) (by omega) hv K.toNat 0 (by omega))
    dsimp only [run_tutorref09_Dot]
    unfold s_tutorref09_Dot_23
    rw [br_pos (by omega), Nat.add_zero]
    rfl

theorem rstates_go {R : Type} {k K O N : Int} {nx ou names : List Int} (D : DotOk k K O N nx ou names) (K0 : Int → (List Int) → Option R) : ∀ (d s : Nat), s + d = N.toNat →
    Reach (fun m => (run_tutorref09_Dot K0 m).2.1 (s : Int) k K O N nx ou (names.map labB) ((linesSt k ou s).map ofBts)) (K0 0 (dotT k K N nx ou names)) := by
  have hN := D.F.fN
  have hK := D.F.fK
  intro d
  induction d with
  | zero =>
    intro s hs
    obtain rfl : s = N.toNat := by omega
    have hll := (linesSt_len D (Nat.le_refl _)).1
    have hv := redges_go D K0 N.toNat 0 (by omega)
    have e : ByteArray.mk #[115, 116, 97, 114, 116, 32, 45, 62, 32, 48] = ofBts sFirst := bts_inj (by rw [bts_ofBts (by decide)]; rfl)
    rw [Nat.zero_mul, linesEd_zero] at hv
    refine .step (fun m => ?_) hv
    dsimp only [run_tutorref09_Dot]
    unfold s_tutorref09_Dot_16
    rw [br_neg (by omega), br_pos (by rw [List.length_map]; simp only [List.length_cons, List.length_nil, lim]; omega), e, List.map_append]
    rfl
  | succ d ih =>
    intro s hs
    have hll := (linesSt_len D (s := s) (by omega)).1
    have h8 := stS_B8 k ou s
    refine .step (fun m => ?_) (ih (s + 1) (by omega))
    have a1 : (ofBts (itoaI (s : Int))).size ≤ 21 := by rw [← bts_size, num_bts]; exact itoa_short (by omega)
    have qd : (ByteArray.mk #[32, 91, 115, 104, 97, 112, 101, 61, 100, 111, 117, 98, 108, 101, 99, 105, 114, 99, 108, 101, 93]).size = 21 := rfl
    have qc : (ByteArray.mk #[32, 91, 115, 104, 97, 112, 101, 61, 99, 105, 114, 99, 108, 101, 93]).size = 15 := rfl
    have bd : bts (ByteArray.mk #[32, 91, 115, 104, 97, 112, 101, 61, 100, 111, 117, 98, 108, 101, 99, 105, 114, 99, 108, 101, 93]) = sShape ++ sDouble ++ [93] := rfl
    have bc : bts (ByteArray.mk #[32, 91, 115, 104, 97, 112, 101, 61, 99, 105, 114, 99, 108, 101, 93]) = sShape ++ sCircle ++ [93] := rfl
    dsimp only [run_tutorref09_Dot]
    unfold s_tutorref09_Dot_16
    rw [br_pos (by omega), linesSt_succ, List.map_append]
    have ec (h : ¬ (k = 1 ∧ ou.getD s 0 = 1)) : ofBts (itoaI (s : Int)) ++ ByteArray.mk #[32, 91, 115, 104, 97, 112, 101, 61, 99, 105, 114, 99, 108, 101, 93] = ofBts (stS k ou s) := bts_inj (by
      rw [bts_ofBts h8, bts_app, num_bts, bc]
      unfold stS
      rw [if_neg h]
      simp only [List.append_assoc])
    by_cases hk : k = 1
    · have ho := D.F.fou1 hk
      rw [br_eq hk, br_pos (by omega), Int.toNat_natCast]
      by_cases h : ou.getD s 0 = 1
      · have e : ofBts (itoaI (s : Int)) ++ ByteArray.mk #[32, 91, 115, 104, 97, 112, 101, 61, 100, 111, 117, 98, 108, 101, 99, 105, 114, 99, 108, 101, 93] = ofBts (stS k ou s) := bts_inj (by
          rw [bts_ofBts h8, bts_app, num_bts, bd]
          unfold stS
          rw [if_pos ⟨hk, h⟩]
          simp only [List.append_assoc])
        rw [br_eq h, rdnum_eq (by unfold inI; omega)]
        try dsimp only
        rw [br_cat (by omega), br_pos (by rw [List.length_map]; simp only [List.length_cons, List.length_nil, lim]; omega), e, wr _ (by omega) (by omega)]
        rfl
      · rw [br_eq' h, rdnum_eq (by unfold inI; omega)]
        try dsimp only
        rw [br_cat (by omega), br_pos (by rw [List.length_map]; simp only [List.length_cons, List.length_nil, lim]; omega), ec (fun q => h q.2), wr _ (by omega) (by omega)]
        rfl
    · rw [br_eq' hk, rdnum_eq (by unfold inI; omega)]
      try dsimp only
      rw [br_cat (by omega), br_pos (by rw [List.length_map]; simp only [List.length_cons, List.length_nil, lim]; omega), ec (fun q => hk q.1), wr _ (by omega) (by omega)]
      rfl

theorem rmid_go {R : Type} {k K O N : Int} {nx ou names : List Int} (D : DotOk k K O N nx ou names) (K0 : Int → (List Int) → Option R) :
    Reach (fun m => (run_tutorref09_Dot K0 m).1 names (names.length : Int) k K O N nx ou (names.map labB)) (K0 0 (dotT k K N nx ou names)) := by
  have hn := D.len
  have e1 : ByteArray.mk #[114, 97, 110, 107, 100, 105, 114, 61, 76, 82] = ofBts sRank := bts_inj (by rw [bts_ofBts (by decide)]; rfl)
  have e2 : ByteArray.mk #[115, 116, 97, 114, 116, 32, 91, 115, 104, 97, 112, 101, 61, 112, 111, 105, 110, 116, 93] = ofBts sStart := bts_inj (by rw [bts_ofBts (by decide)]; rfl)
  refine .step (fun m => ?_) (rstates_go D K0 N.toNat 0 (by omega))
  dsimp only [run_tutorref09_Dot]
  unfold s_tutorref09_Dot_8
  rw [br_neg (by omega), e1, e2]
  rfl

theorem refdot_eq {R : Type} {k K O N : Int} {nx ou names : List Int} (h1 : short nx) (h2 : short ou) (K0 : Int → (List Int) → Option R) :
    l_tutorref09_Dot k K O N nx ou names K0 = K0 (dotE k K O N nx ou names) (if dotE k K O N nx ou names = 0 then dotT k K N nx ou names else []) := by
  unfold l_tutorref09_Dot
  have hck : ∀ (K1 : Int → Int → Option R), l_tutorref03_Check k K O N nx ou K1 = K1 (checkR k K O N nx ou).1 (checkR k K O N nx ou).2 := by
    intro K1
    unfold l_tutorref03_Check
    rw [br_pos ⟨h1, h2⟩]
  by_cases c1 : (checkR k K O N nx ou).2 = 0
  · have F := checkR_fine.1 c1
    by_cases c2 : (names.length : Int) = K
    · have e : dotE k K O N nx ou names = if ∀ c ∈ names, labOk c then 0 else 20 := by
        unfold dotE
        rw [if_neg (by simpa using c1), if_neg (by simpa using c2)]
      refine evl_eq (.same (G := fun m => (run_tutorref09_Dot K0 m).1 names ((0 : Nat) : Int) k K O N nx ou ((names.take 0).map labB)) (fun m => ?_) ?_)
      · unfold e_tutorref09_Dot
        rw [hck]
        try dsimp only
        rw [br_ne' c1, br_ne' c2]
        rfl
      · by_cases c3 : ∀ c ∈ names, labOk c
        · rw [e, if_pos c3, if_pos rfl]
          exact rlabels_go c2 F.fK c3 K0 (rmid_go ⟨F, c2, c3⟩ K0) names.length 0 (by omega)
        · rw [e, if_neg c3, if_neg (by decide)]
          exact rlabels_bad c2 F.fK K0 names.length 0 (by omega) (by rw [List.drop_zero]; exact c3)
    · have e : dotE k K O N nx ou names = 1 := by
        unfold dotE
        rw [if_neg (by simpa using c1), if_pos c2]
      refine evl_eq (.now fun m => ?_)
      unfold e_tutorref09_Dot
      rw [hck]
      try dsimp only
      rw [br_ne' c1, br_ne c2, e, if_neg (by decide)]
  · have e : dotE k K O N nx ou names = (checkR k K O N nx ou).2 := by
      unfold dotE
      rw [if_pos c1]
    refine evl_eq (.now fun m => ?_)
    unfold e_tutorref09_Dot
    rw [hck]
    try dsimp only
    rw [br_ne c1, e, if_neg c1]

abbrev LT_tutorref08_Same := {R : Type} → (List Int) → (List Int) → (Bool → Option R) → Option R
/-- tutor/tutorref08.Same -/
def l_tutorref08_Same {R : Type} (a b : List Int) (K0 : Bool → Option R) : Option R :=
  K0 ((ofBts a).toList == (ofBts b).toList)

theorem sameB_eq {R : Type} (a : List Int) (K0 : Bool → Option R) : l_tutorref08_Same a a K0 = K0 true := by
  unfold l_tutorref08_Same
  rw [beq_self_eq_true]


abbrev LT_tutorlaw09_DotLines := {R : Type} → Int → Int → Int → Int → (List Int) → (List Int) → (List Int) → (Bool → Option R) → Option R
abbrev GT_tutorlaw09_DotLines_8a (R : Type) := (List Int) → Int → Bool → Int → Int → Int → Int → Int → (List Int) → (List Int) → (List Int) → Option R
abbrev GT_tutorlaw09_DotLines_8b (R : Type) := (List Int) → Int → Bool → Int → Int → Int → Int → Int → (List Int) → (List Int) → (List Int) → Option R
abbrev GT_tutorlaw09_DotLines_16a (R : Type) := (List Int) → Int → Bool → Int → Int → Int → Int → Int → (List Int) → (List Int) → (List Int) → Option R
abbrev GT_tutorlaw09_DotLines_16b (R : Type) := (List Int) → Int → Bool → Int → Int → Int → Int → Int → (List Int) → (List Int) → (List Int) → Option R
/-- tutor/tutorlaw09.DotLines -/
def s_tutorlaw09_DotLines_8a {R : Type} (g5_8 : GT_tutorlaw09_DotLines_8a R) (g5_8b : GT_tutorlaw09_DotLines_8b R) (g5_16 : GT_tutorlaw09_DotLines_16a R) (g5_16b : GT_tutorlaw09_DotLines_16b R) (K0 : Bool → Option R) (names : List Int) (n : Int) (wrong : Bool) (i o0 o0_1 o0_2 o0_3 : Int) (o0_4 o0_5 o1 : List Int) : Option R :=
  bi (decide (i < (o1.length : Int)))
   (bi (decide (0 ≤ i ∧ i < ((o1.length : Nat) : Int)))
    (bi ((o1.getD i.toNat 0) != 10)
     (g5_8 names n wrong (IntKind.i64.wrap (i + 1)) o0 o0_1 o0_2 o0_3 o0_4 o0_5 o1)
     (bi (decide (i < (IntKind.i64.wrap ((o1.length : Int) - 1))))
      (bi (!(i == (IntKind.i64.wrap ((o1.length : Int) - 3))))
       (bi (decide (0 ≤ (IntKind.i64.wrap (i + 1)) ∧ (IntKind.i64.wrap (i + 1)) < ((o1.length : Nat) : Int)))
        (bi ((o1.getD ((IntKind.i64.wrap (i + 1)).toNat) 0) != 32)
         (g5_8 names (IntKind.i64.wrap (n + 1)) true (IntKind.i64.wrap (i + 1)) o0 o0_1 o0_2 o0_3 o0_4 o0_5 o1)
         (bi (decide (0 ≤ (IntKind.i64.wrap (i + 2)) ∧ (IntKind.i64.wrap (i + 2)) < ((o1.length : Nat) : Int)))
          (bi ((o1.getD ((IntKind.i64.wrap (i + 2)).toNat) 0) != 32)
           (g5_8 names (IntKind.i64.wrap (n + 1)) true (IntKind.i64.wrap (i + 1)) o0 o0_1 o0_2 o0_3 o0_4 o0_5 o1)
           (g5_8 names (IntKind.i64.wrap (n + 1)) wrong (IntKind.i64.wrap (i + 1)) o0 o0_1 o0_2 o0_3 o0_4 o0_5 o1))
          none))
        none)
       (g5_8 names (IntKind.i64.wrap (n + 1)) wrong (IntKind.i64.wrap (i + 1)) o0 o0_1 o0_2 o0_3 o0_4 o0_5 o1))
      (g5_8 names (IntKind.i64.wrap (n + 1)) wrong (IntKind.i64.wrap (i + 1)) o0 o0_1 o0_2 o0_3 o0_4 o0_5 o1)))
    none)
   (g5_16 names n wrong 0 o0 o0_1 o0_2 o0_3 o0_4 o0_5 o1)

/-- tutor/tutorlaw09.DotLines -/
def s_tutorlaw09_DotLines_8b {R : Type} (g5_8 : GT_tutorlaw09_DotLines_8a R) (g5_8b : GT_tutorlaw09_DotLines_8b R) (g5_16 : GT_tutorlaw09_DotLines_16a R) (g5_16b : GT_tutorlaw09_DotLines_16b R) (K0 : Bool → Option R) (names : List Int) (n : Int) (wrong : Bool) (i o0 o0_1 o0_2 o0_3 : Int) (o0_4 o0_5 o1 : List Int) : Option R :=
  bi (decide (i < (o1.length : Int)))
   (bi (decide (0 ≤ i ∧ i < ((o1.length : Nat) : Int)))
    (bi ((o1.getD i.toNat 0) != 10)
     (g5_8b names n wrong (IntKind.i64.wrap (i + 1)) o0 o0_1 o0_2 o0_3 o0_4 o0_5 o1)
     (bi (decide (i < (IntKind.i64.wrap ((o1.length : Int) - 1))))
      (bi (!(i == (IntKind.i64.wrap ((o1.length : Int) - 3))))
       (bi (decide (0 ≤ (IntKind.i64.wrap (i + 1)) ∧ (IntKind.i64.wrap (i + 1)) < ((o1.length : Nat) : Int)))
        (bi ((o1.getD ((IntKind.i64.wrap (i + 1)).toNat) 0) != 32)
         (g5_8b names (IntKind.i64.wrap (n + 1)) true (IntKind.i64.wrap (i + 1)) o0 o0_1 o0_2 o0_3 o0_4 o0_5 o1)
         (bi (decide (0 ≤ (IntKind.i64.wrap (i + 2)) ∧ (IntKind.i64.wrap (i + 2)) < ((o1.length : Nat) : Int)))
          (bi ((o1.getD ((IntKind.i64.wrap (i + 2)).toNat) 0) != 32)
           (g5_8b names (IntKind.i64.wrap (n + 1)) true (IntKind.i64.wrap (i + 1)) o0 o0_1 o0_2 o0_3 o0_4 o0_5 o1)
           (g5_8b names (IntKind.i64.wrap (n + 1)) wrong (IntKind.i64.wrap (i + 1)) o0 o0_1 o0_2 o0_3 o0_4 o0_5 o1))
          none))
        none)
       (g5_8b names (IntKind.i64.wrap (n + 1)) wrong (IntKind.i64.wrap (i + 1)) o0 o0_1 o0_2 o0_3 o0_4 o0_5 o1))
      (g5_8b names (IntKind.i64.wrap (n + 1)) wrong (IntKind.i64.wrap (i + 1)) o0 o0_1 o0_2 o0_3 o0_4 o0_5 o1)))
    none)
   (g5_16b names n wrong 0 o0 o0_1 o0_2 o0_3 o0_4 o0_5 o1)

/-- tutor/tutorlaw09.DotLines -/
def s_tutorlaw09_DotLines_16a {R : Type} (g5_8 : GT_tutorlaw09_DotLines_8a R) (g5_8b : GT_tutorlaw09_DotLines_8b R) (g5_16 : GT_tutorlaw09_DotLines_16a R) (g5_16b : GT_tutorlaw09_DotLines_16b R) (K0 : Bool → Option R) (names : List Int) (n : Int) (wrong : Bool) (i o0 o0_1 o0_2 o0_3 : Int) (o0_4 o0_5 o1 : List Int) : Option R :=
  bi (decide (i < (o1.length : Int)))
   (bi (decide (0 ≤ i ∧ i < ((o1.length : Nat) : Int)))
    (g5_16 names n wrong (IntKind.i64.wrap (i + 1)) o0 o0_1 o0_2 o0_3 o0_4 o0_5 (o1.set i.toNat 120))
    none)
   (l_dot_Dot o0 o0_1 o0_2 o0_3 o0_4 o0_5 names
    (fun r12 r13 =>
     l_tutorref09_Dot o0 o0_1 o0_2 o0_3 o0_4 o0_5 names
      (fun r14 r15 =>
       bi (!wrong)
        (bi (n == (IntKind.i64.wrap ((IntKind.i64.wrap (o0_3 + (IntKind.i64.wrap (o0_3 * o0_1)))) + 5)))
         (l_tutorref08_Same r13 r15
          (fun r16 =>
           bi r16
            (l_tutorlaw09_live
             (fun r17 =>
              K0 r17))
            (K0 false)))
         (K0 false))
        (K0 false)))
    (fun r18 r19 =>
     l_tutorref09_Dot o0 o0_1 o0_2 o0_3 o0_4 o0_5 names
      (fun r20 r21 =>
       bi (!wrong)
        (bi (n == (IntKind.i64.wrap ((IntKind.i64.wrap (o0_3 + (IntKind.i64.wrap (o0_3 * o0_1)))) + 5)))
         (l_tutorref08_Same r19 r21
          (fun r22 =>
           bi r22
            (l_tutorlaw09_live
             (fun r23 =>
              K0 r23))
            (K0 false)))
         (K0 false))
        (K0 false))))

/-- tutor/tutorlaw09.DotLines -/
def s_tutorlaw09_DotLines_16b {R : Type} (g5_8 : GT_tutorlaw09_DotLines_8a R) (g5_8b : GT_tutorlaw09_DotLines_8b R) (g5_16 : GT_tutorlaw09_DotLines_16a R) (g5_16b : GT_tutorlaw09_DotLines_16b R) (K0 : Bool → Option R) (names : List Int) (n : Int) (wrong : Bool) (i o0 o0_1 o0_2 o0_3 : Int) (o0_4 o0_5 o1 : List Int) : Option R :=
  bi (decide (i < (o1.length : Int)))
   (bi (decide (0 ≤ i ∧ i < ((o1.length : Nat) : Int)))
    (g5_16b names n wrong (IntKind.i64.wrap (i + 1)) o0 o0_1 o0_2 o0_3 o0_4 o0_5 (o1.set i.toNat 120))
    none)
   (l_dot_Dot o0 o0_1 o0_2 o0_3 o0_4 o0_5 names
    (fun r24 r25 =>
     l_tutorref09_Dot o0 o0_1 o0_2 o0_3 o0_4 o0_5 names
      (fun r26 r27 =>
       bi (!wrong)
        (bi (n == (IntKind.i64.wrap ((IntKind.i64.wrap (o0_3 + (IntKind.i64.wrap (o0_3 * o0_1)))) + 5)))
         (l_tutorref08_Same r25 r27
          (fun r28 =>
           bi r28
            (l_tutorlaw09_live
             (fun r29 =>
              K0 r29))
            (K0 false)))
         (K0 false))
        (K0 false)))
    (fun r30 r31 =>
     l_tutorref09_Dot o0 o0_1 o0_2 o0_3 o0_4 o0_5 names
      (fun r32 r33 =>
       bi (!wrong)
        (bi (n == (IntKind.i64.wrap ((IntKind.i64.wrap (o0_3 + (IntKind.i64.wrap (o0_3 * o0_1)))) + 5)))
         (l_tutorref08_Same r31 r33
          (fun r34 =>
           bi r34
            (l_tutorlaw09_live
             (fun r35 =>
              K0 r35))
            (K0 false)))
         (K0 false))
        (K0 false))))

/-- tutor/tutorlaw09.DotLines -/
def e_tutorlaw09_DotLines {R : Type} (g5_8 : GT_tutorlaw09_DotLines_8a R) (g5_8b : GT_tutorlaw09_DotLines_8b R) (g5_16 : GT_tutorlaw09_DotLines_16a R) (g5_16b : GT_tutorlaw09_DotLines_16b R) (K0 : Bool → Option R) (m m_1 m_2 m_3 : Int) (m_4 m_5 names : List Int) : Option R :=
  l_tutorref03_Big m m_1 m_2 m_3 m_4 m_5 100
   (fun r1 =>
    bi r1
     (l_tutorlaw09_live
      (fun r2 =>
       K0 r2))
     (bi (decide ((names.length : Int) > 1000))
      (l_tutorlaw09_live
       (fun r3 =>
        K0 r3))
      (l_dot_Dot m m_1 m_2 m_3 m_4 m_5 names
       (fun r4 r5 =>
        l_tutorlaw09_num r4
         (fun r6 =>
          bi (r6 != 0)
           (bi ((r5.length : Int) == 0)
            (l_tutorlaw09_live
             (fun r7 =>
              K0 r7))
            (K0 false))
           (g5_8 names 0 false 0 m m_1 m_2 m_3 m_4 m_5 r5)))
       (fun r8 r9 =>
        l_tutorlaw09_num r8
         (fun r10 =>
          bi (r10 != 0)
           (bi ((r9.length : Int) == 0)
            (l_tutorlaw09_live
             (fun r11 =>
              K0 r11))
            (K0 false))
           (g5_8b names 0 false 0 m m_1 m_2 m_3 m_4 m_5 r9))))))

def run_tutorlaw09_DotLines {R : Type} (K0 : Bool → Option R) : Nat → ((List Int) → Int → Bool → Int → Int → Int → Int → Int → (List Int) → (List Int) → (List Int) → Option R) × ((List Int) → Int → Bool → Int → Int → Int → Int → Int → (List Int) → (List Int) → (List Int) → Option R) × ((List Int) → Int → Bool → Int → Int → Int → Int → Int → (List Int) → (List Int) → (List Int) → Option R) × ((List Int) → Int → Bool → Int → Int → Int → Int → Int → (List Int) → (List Int) → (List Int) → Option R)
  | 0 => (fun _ _ _ _ _ _ _ _ _ _ _ => none, fun _ _ _ _ _ _ _ _ _ _ _ => none, fun _ _ _ _ _ _ _ _ _ _ _ => none, fun _ _ _ _ _ _ _ _ _ _ _ => none)
  | n + 1 => (s_tutorlaw09_DotLines_8a (run_tutorlaw09_DotLines K0 n).1 (run_tutorlaw09_DotLines K0 n).2.1 (run_tutorlaw09_DotLines K0 n).2.2.1 (run_tutorlaw09_DotLines K0 n).2.2.2 K0, s_tutorlaw09_DotLines_8b (run_tutorlaw09_DotLines K0 n).1 (run_tutorlaw09_DotLines K0 n).2.1 (run_tutorlaw09_DotLines K0 n).2.2.1 (run_tutorlaw09_DotLines K0 n).2.2.2 K0, s_tutorlaw09_DotLines_16a (run_tutorlaw09_DotLines K0 n).1 (run_tutorlaw09_DotLines K0 n).2.1 (run_tutorlaw09_DotLines K0 n).2.2.1 (run_tutorlaw09_DotLines K0 n).2.2.2 K0, s_tutorlaw09_DotLines_16b (run_tutorlaw09_DotLines K0 n).1 (run_tutorlaw09_DotLines K0 n).2.1 (run_tutorlaw09_DotLines K0 n).2.2.1 (run_tutorlaw09_DotLines K0 n).2.2.2 K0)

def l_tutorlaw09_DotLines {R : Type} (m m_1 m_2 m_3 : Int) (m_4 m_5 names : List Int) (K0 : Bool → Option R) : Option R := evl fun fuel => e_tutorlaw09_DotLines (run_tutorlaw09_DotLines K0 fuel).1 (run_tutorlaw09_DotLines K0 fuel).2.1 (run_tutorlaw09_DotLines K0 fuel).2.2.1 (run_tutorlaw09_DotLines K0 fuel).2.2.2 K0 m m_1 m_2 m_3 m_4 m_5 names

theorem ok_tutorlaw09_DotLines {R : Type} (m m_1 m_2 m_3 : Int) (m_4 m_5 names : List Int) (K0 : Bool → Option R) {r : R} (h : l_tutorlaw09_DotLines m m_1 m_2 m_3 m_4 m_5 names K0 = some r) : ∃ fuel, e_tutorlaw09_DotLines (run_tutorlaw09_DotLines K0 fuel).1 (run_tutorlaw09_DotLines K0 fuel).2.1 (run_tutorlaw09_DotLines K0 fuel).2.2.1 (run_tutorlaw09_DotLines K0 fuel).2.2.2 K0 m m_1 m_2 m_3 m_4 m_5 names = some r := evl_ok h

theorem st_tutorlaw09_DotLines_8a {R : Type} (K0 : Bool → Option R) (fuel : Nat) (names : List Int) (n : Int) (wrong : Bool) (i o0 o0_1 o0_2 o0_3 : Int) (o0_4 o0_5 o1 : List Int) : (run_tutorlaw09_DotLines K0 (fuel + 1)).1 names n wrong i o0 o0_1 o0_2 o0_3 o0_4 o0_5 o1 = s_tutorlaw09_DotLines_8a (run_tutorlaw09_DotLines K0 fuel).1 (run_tutorlaw09_DotLines K0 fuel).2.1 (run_tutorlaw09_DotLines K0 fuel).2.2.1 (run_tutorlaw09_DotLines K0 fuel).2.2.2 K0 names n wrong i o0 o0_1 o0_2 o0_3 o0_4 o0_5 o1 := rfl

theorem st_tutorlaw09_DotLines_8b {R : Type} (K0 : Bool → Option R) (fuel : Nat) (names : List Int) (n : Int) (wrong : Bool) (i o0 o0_1 o0_2 o0_3 : Int) (o0_4 o0_5 o1 : List Int) : (run_tutorlaw09_DotLines K0 (fuel + 1)).2.1 names n wrong i o0 o0_1 o0_2 o0_3 o0_4 o0_5 o1 = s_tutorlaw09_DotLines_8b (run_tutorlaw09_DotLines K0 fuel).1 (run_tutorlaw09_DotLines K0 fuel).2.1 (run_tutorlaw09_DotLines K0 fuel).2.2.1 (run_tutorlaw09_DotLines K0 fuel).2.2.2 K0 names n wrong i o0 o0_1 o0_2 o0_3 o0_4 o0_5 o1 := rfl

theorem st_tutorlaw09_DotLines_16a {R : Type} (K0 : Bool → Option R) (fuel : Nat) (names : List Int) (n : Int) (wrong : Bool) (i o0 o0_1 o0_2 o0_3 : Int) (o0_4 o0_5 o1 : List Int) : (run_tutorlaw09_DotLines K0 (fuel + 1)).2.2.1 names n wrong i o0 o0_1 o0_2 o0_3 o0_4 o0_5 o1 = s_tutorlaw09_DotLines_16a (run_tutorlaw09_DotLines K0 fuel).1 (run_tutorlaw09_DotLines K0 fuel).2.1 (run_tutorlaw09_DotLines K0 fuel).2.2.1 (run_tutorlaw09_DotLines K0 fuel).2.2.2 K0 names n wrong i o0 o0_1 o0_2 o0_3 o0_4 o0_5 o1 := rfl

theorem st_tutorlaw09_DotLines_16b {R : Type} (K0 : Bool → Option R) (fuel : Nat) (names : List Int) (n : Int) (wrong : Bool) (i o0 o0_1 o0_2 o0_3 : Int) (o0_4 o0_5 o1 : List Int) : (run_tutorlaw09_DotLines K0 (fuel + 1)).2.2.2 names n wrong i o0 o0_1 o0_2 o0_3 o0_4 o0_5 o1 = s_tutorlaw09_DotLines_16b (run_tutorlaw09_DotLines K0 fuel).1 (run_tutorlaw09_DotLines K0 fuel).2.1 (run_tutorlaw09_DotLines K0 fuel).2.2.1 (run_tutorlaw09_DotLines K0 fuel).2.2.2 K0 names n wrong i o0 o0_1 o0_2 o0_3 o0_4 o0_5 o1 := rfl

section
variable {R : Type} {K0 : Bool → Option R} {k K O N : Int} {nx ou names t : List Int} {v : Option R}

theorem lines_seg {n : Int} (ht : t.length ≤ 100000000) : ∀ (seg : List Int) (rest : List Int) (i : Nat), t.drop i = seg ++ rest → gt10 seg →
    Reach (fun m => (run_tutorlaw09_DotLines K0 m).2.1 names n false ((i + seg.length : Nat) : Int) k K O N nx ou t) v → Reach (fun m => (run_tutorlaw09_DotLines K0 m).2.1 names n false (i : Int) k K O N nx ou t) v := by
  intro seg
  induction seg with
  | nil =>
    intro rest i _ _ hv
    exact hv
  | cons c seg ih =>
    intro rest i hd hg hv
    obtain ⟨h1, h2, h3, _⟩ := drop_cons hd
    have hc := hg c (List.mem_cons_self ..)
    refine .step (fun m => ?_) (ih rest (i + 1) h3 (fun x hx => hg x (List.mem_cons_of_mem _ hx)) (by rw [List.length_cons] at hv; rw [Nat.add_assoc, Nat.add_comm 1]; exact hv))
    dsimp only [run_tutorlaw09_DotLines]
    unfold s_tutorlaw09_DotLines_8b
    rw [br_pos (by omega), br_pos (by omega), Int.toNat_natCast, h2, br_ne (by omega), wr _ (by omega) (by omega)]
    rfl

theorem lines_nl {n : Int} (hn : 0 ≤ n ∧ n ≤ 100000000) (ht : t.length ≤ 100000000) {rest : List Int} {i : Nat} (hd : t.drop i = 10 :: rest) (ha : aft rest)
    (hv : Reach (fun m => (run_tutorlaw09_DotLines K0 m).2.1 names (n + 1) false ((i + 1 : Nat) : Int) k K O N nx ou t) v) : Reach (fun m => (run_tutorlaw09_DotLines K0 m).2.1 names n false (i : Int) k K O N nx ou t) v := by
  obtain ⟨h1, h2, h3, h4⟩ := drop_cons hd
  refine .step (fun m => ?_) hv
  dsimp only [run_tutorlaw09_DotLines]
  unfold s_tutorlaw09_DotLines_8b
  rw [br_pos (by omega), br_pos (by omega), Int.toNat_natCast, h2, br_ne' rfl, wr ((t.length : Int) - 1) (by omega) (by omega), wr ((t.length : Int) - 3) (by omega) (by omega), wr (n + 1) (by omega) (by omega), wr ((i : Int) + 1) (by omega) (by omega), wr ((i : Int) + 2) (by omega) (by omega)]
  rcases ha with rfl | rfl | ⟨x, rfl⟩
  · rw [List.length_nil] at h4
    rw [br_neg (by omega)]
    rfl
  · simp only [List.length_cons, List.length_nil] at h4
    have e : ((i : Int) == (t.length : Int) - 3) = true := by
      rw [beq_iff_eq]
      omega
    rw [br_pos (by omega), e, show (!true) = false from rfl, br_ff]
    rfl
  · obtain ⟨g1, g2, g3, g4⟩ := drop_cons h3
    obtain ⟨g5, g6, g7, g8⟩ := drop_cons g3
    rw [br_pos (by omega)]
    by_cases hq : (i : Int) = (t.length : Int) - 3
    · rw [show ((i : Int) == (t.length : Int) - 3) = true from beq_iff_eq.2 hq, show (!true) = false from rfl, br_ff]
      rfl
    · have e : ((i : Int) == (t.length : Int) - 3) = false := by
        rw [beq_eq_false_iff_ne]
        exact hq
      rw [e, show (!false) = true from rfl, br_tt, br_pos (by omega), show ((i : Int) + 1).toNat = i + 1 by omega, g2, br_ne' rfl, br_pos (by omega), show ((i : Int) + 2).toNat = i + 1 + 1 by omega, g6, br_ne' rfl]
      rfl

theorem lines_go (ht : t.length ≤ 100000000) : ∀ (ls : List (List Int)) (i : Nat) (n : Int), (∀ l ∈ ls, gt10 l) → t.drop i = (ls.map lineS).flatten ++ [125, 10] → 0 ≤ n → n + ls.length ≤ 1000000 →
    Reach (fun m => (run_tutorlaw09_DotLines K0 m).2.1 names (n + ls.length + 1) false (t.length : Int) k K O N nx ou t) v → Reach (fun m => (run_tutorlaw09_DotLines K0 m).2.1 names n false (i : Int) k K O N nx ou t) v := by
  intro ls
  induction ls with
  | nil =>
    intro i n _ hd h0 hn hv
    have hd : t.drop i = 125 :: [10] := hd
    obtain ⟨h1, h2, h3, h4⟩ := drop_cons hd
    obtain ⟨g1, g2, g3, g4⟩ := drop_cons h3
    refine lines_seg ht [125] [10] i hd (by decide) (lines_nl (by omega) ht h3 (.inl rfl) ?_)
    have e : ((t.length : Nat) : Int) = ((i + [(125 : Int)].length + 1 : Nat) : Int) := by
      rw [g4]
      simp
      omega
    rw [e] at hv
    simpa using hv
  | cons l ls ih =>
    intro i n hg hd h0 hn hv
    have hd : t.drop i = (32 :: 32 :: l) ++ 10 :: ((ls.map lineS).flatten ++ [125, 10]) := by
      rw [hd]
      simp [lineS]
    have hl := hg l (List.mem_cons_self ..)
    have d2 : t.drop (i + (32 :: 32 :: l).length) = 10 :: ((ls.map lineS).flatten ++ [125, 10]) := by
      rw [← List.drop_drop, hd, List.drop_left]
    obtain ⟨h1, h2, h3, h4⟩ := drop_cons d2
    refine lines_seg ht (32 :: 32 :: l) _ i hd (fun x hx => ?_) (lines_nl (by omega) ht d2 (aft_lines ls) (ih _ (n + 1) (fun x hx => hg x (List.mem_cons_of_mem _ hx)) h3 (by omega) ?_ ?_))
    · rcases List.mem_cons.1 hx with rfl | hx
      · decide
      · rcases List.mem_cons.1 hx with rfl | hx
        · decide
        · exact hl x hx
    · rw [List.length_cons] at hn
      omega
    · rw [List.length_cons] at hv
      rw [show n + 1 + (ls.length : Int) + 1 = n + ((ls.length + 1 : Nat) : Int) + 1 by omega]
      exact hv

theorem lines_over {n : Int} : ∀ (d i : Nat) (t : List Int), t.length ≤ 100000000 → i + d = t.length →
    (∀ (t' : List Int), t'.length ≤ 100000000 → Reach (fun m => (run_tutorlaw09_DotLines K0 m).2.2.2 names n false (t'.length : Int) k K O N nx ou t') v) → Reach (fun m => (run_tutorlaw09_DotLines K0 m).2.2.2 names n false (i : Int) k K O N nx ou t) v := by
  intro d
  induction d with
  | zero =>
    intro i t ht hi hv
    obtain rfl : i = t.length := by omega
    exact hv t ht
  | succ d ih =>
    intro i t ht hi hv
    refine .step (fun m => ?_) (ih (i + 1) (t.set i 120) (by rw [List.length_set]; exact ht) (by rw [List.length_set]; omega) hv)
    dsimp only [run_tutorlaw09_DotLines]
    unfold s_tutorlaw09_DotLines_16b
    rw [br_pos (by omega), br_pos (by omega), Int.toNat_natCast, wr _ (by omega) (by omega)]
    rfl
end

theorem law_tutorlaw09_DotLines {R : Type} (k K O N : Int) (nx ou names : List Int) (K0 : Bool → Option R) (hk : inI k) (hK : inI K) (hO : inI O) (hN : inI N) (hn : okW nx) (ho : okW ou)
    (hm : names.length ≤ 140737488351232 ∧ ∀ c ∈ names, (Lit.int .i32 c).wf = true) : l_tutorlaw09_DotLines k K O N nx ou names K0 = K0 true := by
  unfold l_tutorlaw09_DotLines
  by_cases hb : N ≤ 100 ∧ nx.length ≤ 70000 ∧ ou.length ≤ 70000
  · have o1 : okL nx := hn.okL (by unfold short; omega)
    have o2 : okL ou := ho.okL (by unfold short; omega)
    by_cases hl : (names.length : Int) > 1000
    · refine evl_eq (.now fun m => ?_)
      unfold e_tutorlaw09_DotLines
      rw [big_f hb, br_ff, br_pos hl, live09]
    · by_cases hd : dotE k K O N nx ou names = 0
      · have D := dotE_zero.1 hd
        have hNN := D.F.fN
        have hx := D.lenNx
        have hfx := D.F.fnx
        have hll := linesEd_len D (Nat.le_refl _)
        have hpp := partEd_len D (Nat.le_refl _)
        have ht : (dotT k K N nx ou names).length ≤ 100000000 := by
          unfold dotT
          rw [text_part, List.length_append]
          simp only [List.length_cons, List.length_nil]
          omega
        have hd0 : (dotT k K N nx ou names).drop 0 = [100, 105, 103, 114, 97, 112, 104, 32, 109, 32, 123] ++ 10 :: (((linesEd k K N nx ou names nx.length).map lineS).flatten ++ [125, 10]) := by
          unfold dotT textS sHead
          simp
        have hd1 : (dotT k K N nx ou names).drop (0 + 11) = 10 :: (((linesEd k K N nx ou names nx.length).map lineS).flatten ++ [125, 10]) := by
          unfold dotT textS sHead
          simp
        refine evl_eq (.same (G := fun m => (run_tutorlaw09_DotLines K0 m).2.1 names 0 false ((0 : Nat) : Int) k K O N nx ou (dotT k K N nx ou names)) (fun m => ?_)
          (lines_seg ht [100, 105, 103, 114, 97, 112, 104, 32, 109, 32, 123] _ 0 hd0 (by decide) (lines_nl (by omega) ht hd1 (aft_lines _)
            (lines_go ht _ _ _ (linesEd_gt D (Nat.le_refl _)) (drop_cons hd1).2.2.1 (by omega) (by omega) ?_))))
        · unfold e_tutorlaw09_DotLines
          rw [big_f hb, br_ff, br_neg hl, dot_eq o1 o2, if_pos hd]
          try dsimp only [l_tutorlaw09_num]
          rw [br_ne' rfl]
          rfl
        · refine .step (G := fun m => (run_tutorlaw09_DotLines K0 m).2.2.2 names (0 + 1 + ((linesEd k K N nx ou names nx.length).length : Int) + 1) false ((0 : Nat) : Int) k K O N nx ou (dotT k K N nx ou names)) (fun m => ?_) (lines_over (dotT k K N nx ou names).length 0 _ ht (by omega) fun t' ht' => .now fun m => ?_)
          · dsimp only [run_tutorlaw09_DotLines]
            unfold s_tutorlaw09_DotLines_8b
            rw [br_neg (by omega)]
            rfl
          · dsimp only [run_tutorlaw09_DotLines]
            unfold s_tutorlaw09_DotLines_16b
            rw [br_neg (by omega), dot_eq o1 o2, if_pos hd]
            try dsimp only
            rw [refdot_eq o1.1 o2.1, if_pos hd]
            try dsimp only
            rw [show (!false) = true from rfl, br_tt, ← hfx, hll.1, wr (nx.length : Int) (by omega) (by omega), wr (N + (nx.length : Int)) (by omega) (by omega), wr (N + (nx.length : Int) + 5) (by omega) (by omega), br_eq (by omega), sameB_eq]
            try dsimp only
            rw [br_tt, live09]
      · refine evl_eq (.now fun m => ?_)
        unfold e_tutorlaw09_DotLines
        rw [big_f hb, br_ff, br_neg hl, dot_eq o1 o2, if_neg hd]
        try dsimp only [l_tutorlaw09_num]
        rw [br_ne hd, br_eq (show ((([] : List Int).length : Nat) : Int) = 0 from rfl), live09]
  · refine evl_eq (.now fun m => ?_)
    unfold e_tutorlaw09_DotLines
    rw [big_t hb, br_tt, live09]

end
end Go.Ev
