/- Functions of the program, as trees of tests over numbers and lists; no program in sight. -/
import Derived.Test.YtfbdgjepflokpaaEvBfs
namespace Go.Ev
noncomputable section
set_option linter.unusedVariables false
set_option linter.unusedSimpArgs false
set_option maxRecDepth 100000
set_option maxHeartbeats 4000000

/-- tutor/tutorref03.Big -/
def l_tutorref03_Big {R : Type} (m : Int) (m_1 : Int) (m_2 : Int) (m_3 : Int) (m_4 : List Int) (m_5 : List Int) (states : Int) (K0 : Bool → Option R) : Option R :=
  bi (decide (m_3 > states))
   (K0 true)
   (bi (decide ((m_4.length : Int) > 70000))
    (K0 true)
    (K0 (decide ((m_5.length : Int) > 70000))))

theorem big_cases {R : Type} (k K O N : Int) (nx ou : List Int) (states : Int) (K0 : Bool → Option R) :
    (l_tutorref03_Big k K O N nx ou states K0 = K0 true) ∨ (N ≤ states ∧ nx.length ≤ 70000 ∧ ou.length ≤ 70000 ∧ l_tutorref03_Big k K O N nx ou states K0 = K0 false) := by
  unfold l_tutorref03_Big
  by_cases h1 : N > states
  · exact .inl (by rw [br_pos h1])
  rw [br_neg h1]
  by_cases h2 : (nx.length : Int) > 70000
  · exact .inl (by rw [br_pos h2])
  rw [br_neg h2]
  by_cases h3 : (ou.length : Int) > 70000
  · exact .inl (by rw [decide_eq_true h3])
  · exact .inr ⟨by omega, by omega, by omega, by rw [decide_eq_false h3]⟩

/-- tutor/machine.says -/
def l_machine_says {R : Type} (m : Int) (m_1 : Int) (m_2 : Int) (m_3 : Int) (m_4 : List Int) (m_5 : List Int) (K0 : Int → Option R) : Option R :=
  bi (m == 1)
   (K0 m_3)
   (K0 (IntKind.i64.wrap (m_3 * m_1)))

/-- tutor/machine.head -/
def l_machine_head {R : Type} (m : Int) (m_1 : Int) (m_2 : Int) (m_3 : Int) (m_4 : List Int) (m_5 : List Int) (K0 : Int → Option R) : Option R :=
  bi (m != 1)
   (bi (m != 2)
    (K0 30)
    (bi (decide (m_1 < 1))
     (K0 1)
     (bi (decide (m_1 > 64))
      (K0 1)
      (bi (m == 1)
       (bi (m_2 != 2)
        (K0 33)
        (bi (decide (m_2 < 1))
         (K0 33)
         (bi (decide (m_2 > 64))
          (K0 33)
          (bi (decide (m_3 < 1))
           (K0 3)
           (bi (decide (m_3 > 1024))
            (K0 3)
            (bi ((m_4.length : Int) != (IntKind.i64.wrap (m_3 * m_1)))
             (K0 31)
             (l_machine_says m m_1 m_2 m_3 m_4 m_5
              (fun r1 =>
               bi ((m_5.length : Int) != r1)
                (K0 31)
                (K0 0)))))))))
       (bi (decide (m_2 < 1))
        (K0 33)
        (bi (decide (m_2 > 64))
         (K0 33)
         (bi (decide (m_3 < 1))
          (K0 3)
          (bi (decide (m_3 > 1024))
           (K0 3)
           (bi ((m_4.length : Int) != (IntKind.i64.wrap (m_3 * m_1)))
            (K0 31)
            (l_machine_says m m_1 m_2 m_3 m_4 m_5
             (fun r2 =>
              bi ((m_5.length : Int) != r2)
               (K0 31)
               (K0 0))))))))))))
   (bi (decide (m_1 < 1))
    (K0 1)
    (bi (decide (m_1 > 64))
     (K0 1)
     (bi (m == 1)
      (bi (m_2 != 2)
       (K0 33)
       (bi (decide (m_2 < 1))
        (K0 33)
        (bi (decide (m_2 > 64))
         (K0 33)
         (bi (decide (m_3 < 1))
          (K0 3)
          (bi (decide (m_3 > 1024))
           (K0 3)
           (bi ((m_4.length : Int) != (IntKind.i64.wrap (m_3 * m_1)))
            (K0 31)
            (l_machine_says m m_1 m_2 m_3 m_4 m_5
             (fun r3 =>
              bi ((m_5.length : Int) != r3)
               (K0 31)
               (K0 0)))))))))
      (bi (decide (m_2 < 1))
       (K0 33)
       (bi (decide (m_2 > 64))
        (K0 33)
        (bi (decide (m_3 < 1))
         (K0 3)
         (bi (decide (m_3 > 1024))
          (K0 3)
          (bi ((m_4.length : Int) != (IntKind.i64.wrap (m_3 * m_1)))
           (K0 31)
           (l_machine_says m m_1 m_2 m_3 m_4 m_5
            (fun r4 =>
             bi ((m_5.length : Int) != r4)
              (K0 31)
              (K0 0)))))))))))

theorem head_eq {R : Type} (k K O N : Int) (nx ou : List Int) (K0 : Int → Option R) : l_machine_head k K O N nx ou K0 = K0 (headS k K O N nx ou) := by
  unfold l_machine_head l_machine_says headS
  simp only [br_if, bne_iff_ne, beq_iff_eq, decide_eq_true_eq, ne_eq]
  by_cases hb : (1 ≤ N ∧ N ≤ 1024) ∧ 1 ≤ K ∧ K ≤ 64
  · have := mulK hb
    rw [wr (N * K) (by omega) (by omega)]
    repeat' (refine ite_l (fun _ => ?_) (fun _ => ?_))
    all_goals
      refine congrArg K0 ?_
      repeat' (refine ite_r (fun _ => ?_) (fun _ => ?_))
      all_goals omega
  · repeat' (refine ite_l (fun _ => ?_) (fun _ => ?_))
    all_goals
      refine congrArg K0 ?_
      repeat' (refine ite_r (fun _ => ?_) (fun _ => ?_))
      all_goals omega

/-- tutor/machine.beyond -/
def s_machine_beyond_2 {R : Type} (g45_2 : (List Int) → Int → Int → Int → Option R) (K0 : Int → Option R) (l : List Int) (n : Int) (x7 : Int) (x8 : Int) : Option R :=
  bi (decide (x8 < x7))
   (bi (decide (0 ≤ x8 ∧ x8 < ((l.length : Nat) : Int)))
    (bi (decide ((IntKind.u64.wrap (l.getD x8.toNat 0)) ≥ (IntKind.u64.wrap n)))
     (K0 x8)
     (g45_2 l n x7 (IntKind.i64.wrap (x8 + 1))))
    none)
   (K0 (-1))

/-- tutor/machine.beyond -/
def e_machine_beyond {R : Type} (g45_2 : (List Int) → Int → Int → Int → Option R) (K0 : Int → Option R) (l : List Int) (n : Int) : Option R :=
  g45_2 l n (l.length : Int) 0

def run_machine_beyond {R : Type} (K0 : Int → Option R) : Nat → (List Int) → Int → Int → Int → Option R
  | 0 => fun _ _ _ _ => none
  | n + 1 => s_machine_beyond_2 (run_machine_beyond K0 n) K0

def l_machine_beyond {R : Type} (l : List Int) (n : Int) (K0 : Int → Option R) : Option R := bi (decide (short l)) (K0 (beyondS n l)) none

theorem ok_machine_beyond {R : Type} (l : List Int) (n : Int) (K0 : Int → Option R) {r : R} (h : l_machine_beyond l n K0 = some r) : ∃ fuel, e_machine_beyond (run_machine_beyond K0 fuel) K0 l n = some r := by
  unfold l_machine_beyond at h
  rcases bi_some h with ⟨hs, h⟩ | ⟨_, h⟩
  · have hs : l.length < 4611686018427387904 := of_decide_eq_true hs
    refine ⟨l.length + 1, ?_⟩
    rw [← h]
    have key := scan_all (F := fun m i => run_machine_beyond K0 m l n (l.length : Int) (i : Int)) (bad n) (l := l) (A := fun i => K0 i) (B := K0 (-1))
      (fun m => by
        show s_machine_beyond_2 _ _ _ _ _ _ = _
        unfold s_machine_beyond_2
        rw [br_neg (by omega)])
      (fun m i hi => by
        show s_machine_beyond_2 _ _ _ _ _ _ = _
        unfold s_machine_beyond_2
        rw [br_pos (by omega), br_pos (by omega), br_if, Int.toNat_natCast, getD_of 0 hi, wr _ (by omega) (by omega)]
        rfl)
    unfold e_machine_beyond beyondS
    refine key.trans ?_
    cases findP (bad n) l <;> rfl
  · cases h

/-- tutor/machine.Check -/
def l_machine_Check {R : Type} (m : Int) (m_1 : Int) (m_2 : Int) (m_3 : Int) (m_4 : List Int) (m_5 : List Int) (K0 : Int → Int → Option R) : Option R :=
  l_machine_head m m_1 m_2 m_3 m_4 m_5
   (fun r1 =>
    bi (r1 != 0)
     (K0 0 r1)
     (l_machine_beyond m_4 m_3
      (fun r2 =>
       bi (decide (r2 ≥ 0))
        (K0 r2 32)
        (l_machine_beyond m_5 m_2
         (fun r3 =>
          bi (decide (r3 ≥ 0))
           (K0 r3 33)
           (K0 0 0))))))

theorem check_eq {R : Type} (k K O N : Int) (nx ou : List Int) (h1 : short nx) (h2 : short ou) (K0 : Int → Int → Option R) :
    l_machine_Check k K O N nx ou K0 = K0 (checkS k K O N nx ou).1 (checkS k K O N nx ou).2 := by
  unfold l_machine_Check checkS l_machine_beyond beyondS
  rw [head_eq]
  by_cases h : headS k K O N nx ou = 0
  · rw [br_ne' h, if_neg (by simpa using h), br_pos h1]
    cases hf : findP (bad N) nx with
    | some i => simp only [br_pos (show ((i : Nat) : Int) ≥ 0 by omega)]
    | none =>
      simp only [br_neg (show ¬ ((-1 : Int) ≥ 0) by omega), br_pos h2]
      cases hg : findP (bad O) ou with
      | some i => simp only [br_pos (show ((i : Nat) : Int) ≥ 0 by omega)]
      | none => simp only [br_neg (show ¬ ((-1 : Int) ≥ 0) by omega)]
  · rw [br_ne h, if_pos (by simpa using h)]

/-- tutor/differ.fit -/
def s_differ_fit_2 {R : Type} (g27_2 : Int → Int → Int → Int → Int → Int → (List Int) → (List Int) → Int → Int → Int → Int → (List Int) → (List Int) → (List (Int × (Int × (Int × (Int × (List Int × List Int)))))) → Option R) (K0 : Int → Option R) (x12 : Int) (x13 : Int) (o0 : Int) (o0_1 : Int) (o0_2 : Int) (o0_3 : Int) (o0_4 : List Int) (o0_5 : List Int) (o1 : Int) (o1_1 : Int) (o1_2 : Int) (o1_3 : Int) (o1_4 : List Int) (o1_5 : List Int) (o2 : List (Int × (Int × (Int × (Int × (List Int × List Int)))))) : Option R :=
  bi (decide (x13 < x12))
   (bi (decide (0 ≤ x13 ∧ x13 < ((o2.length : Nat) : Int)))
    (l_machine_Check ((o2.getD x13.toNat (0, (0, (0, (0, ([], [])))))).1) (((o2.getD x13.toNat (0, (0, (0, (0, ([], [])))))).2).1) ((((o2.getD x13.toNat (0, (0, (0, (0, ([], [])))))).2).2).1) (((((o2.getD x13.toNat (0, (0, (0, (0, ([], [])))))).2).2).2).1) ((((((o2.getD x13.toNat (0, (0, (0, (0, ([], [])))))).2).2).2).2).1) ((((((o2.getD x13.toNat (0, (0, (0, (0, ([], [])))))).2).2).2).2).2)
     (fun r1 r2 =>
      bi (r2 != 0)
       (K0 r2)
       (g27_2 x12 (IntKind.i64.wrap (x13 + 1)) o0 o0_1 o0_2 o0_3 o0_4 o0_5 o1 o1_1 o1_2 o1_3 o1_4 o1_5 o2)))
    none)
   (bi (o0 != o1)
    (K0 30)
    (bi (o0_1 != o1_1)
     (K0 1)
     (bi (o0_2 != o1_2)
      (K0 33)
      (K0 0))))

/-- tutor/differ.fit -/
def e_differ_fit {R : Type} (g27_2 : Int → Int → Int → Int → Int → Int → (List Int) → (List Int) → Int → Int → Int → Int → (List Int) → (List Int) → (List (Int × (Int × (Int × (Int × (List Int × List Int)))))) → Option R) (K0 : Int → Option R) (a : Int) (a_1 : Int) (a_2 : Int) (a_3 : Int) (a_4 : List Int) (a_5 : List Int) (b : Int) (b_1 : Int) (b_2 : Int) (b_3 : Int) (b_4 : List Int) (b_5 : List Int) : Option R :=
  g27_2 ([(a, (a_1, (a_2, (a_3, (a_4, a_5))))), (b, (b_1, (b_2, (b_3, (b_4, b_5)))))].length : Int) 0 a a_1 a_2 a_3 a_4 a_5 b b_1 b_2 b_3 b_4 b_5 [(a, (a_1, (a_2, (a_3, (a_4, a_5))))), (b, (b_1, (b_2, (b_3, (b_4, b_5)))))]

def run_differ_fit {R : Type} (K0 : Int → Option R) : Nat → Int → Int → Int → Int → Int → Int → (List Int) → (List Int) → Int → Int → Int → Int → (List Int) → (List Int) → (List (Int × (Int × (Int × (Int × (List Int × List Int)))))) → Option R
  | 0 => fun _ _ _ _ _ _ _ _ _ _ _ _ _ _ _ => none
  | n + 1 => s_differ_fit_2 (run_differ_fit K0 n) K0

/-- Whether they may be held against one another. -/
def fitS (k K O N : Int) (nx ou : List Int) (k' K' O' N' : Int) (nx' ou' : List Int) : Int :=
  if (checkS k K O N nx ou).2 ≠ 0 then (checkS k K O N nx ou).2 else if (checkS k' K' O' N' nx' ou').2 ≠ 0 then (checkS k' K' O' N' nx' ou').2 else
    if k ≠ k' then 30 else if K ≠ K' then 1 else if O ≠ O' then 33 else 0

def l_differ_fit {R : Type} (a : Int) (a_1 : Int) (a_2 : Int) (a_3 : Int) (a_4 : List Int) (a_5 : List Int) (b : Int) (b_1 : Int) (b_2 : Int) (b_3 : Int) (b_4 : List Int) (b_5 : List Int) (K0 : Int → Option R) : Option R :=
  bi (decide ((short a_4 ∧ short a_5) ∧ short b_4 ∧ short b_5)) (K0 (fitS a a_1 a_2 a_3 a_4 a_5 b b_1 b_2 b_3 b_4 b_5)) none

theorem two0 {α : Type} (x y d : α) : [x, y].getD (0 : Int).toNat d = x := rfl
theorem two1 {α : Type} (x y d : α) : [x, y].getD (0 + 1 : Int).toNat d = y := rfl

theorem ok_differ_fit {R : Type} (a : Int) (a_1 : Int) (a_2 : Int) (a_3 : Int) (a_4 : List Int) (a_5 : List Int) (b : Int) (b_1 : Int) (b_2 : Int) (b_3 : Int) (b_4 : List Int) (b_5 : List Int) (K0 : Int → Option R) {r : R} (h : l_differ_fit a a_1 a_2 a_3 a_4 a_5 b b_1 b_2 b_3 b_4 b_5 K0 = some r) : ∃ fuel, e_differ_fit (run_differ_fit K0 fuel) K0 a a_1 a_2 a_3 a_4 a_5 b b_1 b_2 b_3 b_4 b_5 = some r := by
  unfold l_differ_fit at h
  rcases bi_some h with ⟨hs, h⟩ | ⟨_, h⟩
  · obtain ⟨⟨h1, h2⟩, h3, h4⟩ := of_decide_eq_true hs
    refine ⟨3, ?_⟩
    rw [← h]
    unfold e_differ_fit fitS
    show s_differ_fit_2 (run_differ_fit K0 2) _ _ _ _ _ _ _ _ _ _ _ _ _ _ _ _ = _
    unfold s_differ_fit_2
    rw [br_pos (by simp), br_pos (by simp)]
    simp only [two0]
    rw [check_eq _ _ _ _ _ _ h1 h2]
    by_cases c1 : (checkS a a_1 a_2 a_3 a_4 a_5).2 = 0
    · rw [br_ne' c1, if_neg (by simpa using c1), wr _ (by omega) (by omega)]
      show s_differ_fit_2 (run_differ_fit K0 1) _ _ _ _ _ _ _ _ _ _ _ _ _ _ _ _ = _
      unfold s_differ_fit_2
      rw [br_pos (by simp), br_pos (by simp)]
      simp only [two1]
      rw [check_eq _ _ _ _ _ _ h3 h4]
      by_cases c2 : (checkS b b_1 b_2 b_3 b_4 b_5).2 = 0
      · rw [br_ne' c2, if_neg (by simpa using c2), wr _ (by omega) (by omega)]
        show s_differ_fit_2 (run_differ_fit K0 0) _ _ _ _ _ _ _ _ _ _ _ _ _ _ _ _ = _
        unfold s_differ_fit_2
        rw [br_neg (by simp)]
        simp only [br_if, bne_iff_ne, ne_eq]
        repeat' (refine ite_l (fun _ => ?_) (fun _ => ?_))
        all_goals
          refine congrArg K0 ?_
          repeat' (refine ite_r (fun _ => ?_) (fun _ => ?_))
          all_goals omega
      · rw [br_ne c2, if_pos (by simpa using c2)]
    · rw [br_ne c1, if_pos (by simpa using c1)]
  · cases h

theorem fit_eq {R : Type} {k K O N : Int} {nx ou : List Int} {k' K' O' N' : Int} {nx' ou' : List Int} (h1 : okL nx) (h2 : okL ou) (h3 : okL nx') (h4 : okL ou') (K0 : Int → Option R) :
    l_differ_fit k K O N nx ou k' K' O' N' nx' ou' K0 = K0 (fitS k K O N nx ou k' K' O' N' nx' ou') := by
  unfold l_differ_fit
  rw [br_pos ⟨⟨h1.1, h2.1⟩, h3.1, h4.1⟩]

/-- slices.Reverse[[]int,int] -/
def s_slices_Reverse_int_int_1 {R : Type} (g54_1 : Int → Int → (List Int) → Option R) (K0 : (List Int) → Option R) (i : Int) (j : Int) (o0 : List Int) : Option R :=
  bi (decide (i < j))
   (bi (decide (0 ≤ j ∧ j < ((o0.length : Nat) : Int)))
    (bi (decide (0 ≤ i ∧ i < ((o0.length : Nat) : Int)))
     (bi (decide (0 ≤ i ∧ i < ((o0.length : Nat) : Int)))
      (bi (decide (0 ≤ j ∧ j < (((o0.set i.toNat (o0.getD j.toNat 0)).length : Nat) : Int)))
       (g54_1 (IntKind.i64.wrap (i + 1)) (IntKind.i64.wrap (j - 1)) ((o0.set i.toNat (o0.getD j.toNat 0)).set j.toNat (o0.getD i.toNat 0)))
       none)
      none)
     none)
    none)
   (K0 o0)

/-- slices.Reverse[[]int,int] -/
def e_slices_Reverse_int_int {R : Type} (g54_1 : Int → Int → (List Int) → Option R) (K0 : (List Int) → Option R) (o0 : List Int) : Option R :=
  g54_1 0 (IntKind.i64.wrap ((o0.length : Int) - 1)) o0

def run_slices_Reverse_int_int {R : Type} (K0 : (List Int) → Option R) : Nat → Int → Int → (List Int) → Option R
  | 0 => fun _ _ _ => none
  | n + 1 => s_slices_Reverse_int_int_1 (run_slices_Reverse_int_int K0 n) K0

def l_slices_Reverse_int_int {R : Type} (o0 : List Int) (K0 : (List Int) → Option R) : Option R := bi (decide (short o0)) (K0 o0.reverse) none

/-- Both ends turned, up to a place. -/
def revA (w : List Int) (a : Nat) : List Int := (List.range w.length).map fun t => if t < a ∨ w.length - a ≤ t then w.getD (w.length - 1 - t) 0 else w.getD t 0

theorem revA_len (w : List Int) (a : Nat) : (revA w a).length = w.length := by simp [revA]
theorem revA_get (w : List Int) (a t : Nat) (h : t < w.length) : (revA w a).getD t 0 = if t < a ∨ w.length - a ≤ t then w.getD (w.length - 1 - t) 0 else w.getD t 0 := by
  unfold revA
  rw [getD_of 0 (by simpa using h), List.getElem_map, List.getElem_range]
theorem revA_ext {w u : List Int} {a : Nat} (hl : u.length = w.length) (h : ∀ t, t < w.length → u.getD t 0 = if t < a ∨ w.length - a ≤ t then w.getD (w.length - 1 - t) 0 else w.getD t 0) : u = revA w a := by
  refine List.ext_getElem (by rw [hl, revA_len]) fun t h1 h2 => ?_
  have e1 := h t (by omega)
  rw [getD_of 0 h1] at e1
  rw [e1, ← getD_of 0 h2, revA_get w a t (by omega)]

theorem getD_set (l : List Int) (i t : Nat) (x : Int) : (l.set i x).getD t 0 = if i = t ∧ i < l.length then x else l.getD t 0 := by
  rw [List.getD_eq_getElem?_getD, List.getElem?_set, List.getD_eq_getElem?_getD]
  by_cases h : i = t
  · subst h
    by_cases h2 : i < l.length
    · simp [h2]
    · simp [h2]
  · simp [h]

theorem ok_slices_Reverse_int_int {R : Type} (o0 : List Int) (K0 : (List Int) → Option R) {r : R} (h : l_slices_Reverse_int_int o0 K0 = some r) : ∃ fuel, e_slices_Reverse_int_int (run_slices_Reverse_int_int K0 fuel) K0 o0 = some r := by
  unfold l_slices_Reverse_int_int at h
  rcases bi_some h with ⟨hs, h⟩ | ⟨_, h⟩
  · have hs : o0.length < 4611686018427387904 := of_decide_eq_true hs
    refine ⟨o0.length + 1, ?_⟩
    rw [← h]
    have key : ∀ (d a : Nat), a + d = o0.length → run_slices_Reverse_int_int K0 (d + 1) (a : Int) ((o0.length : Int) - 1 - (a : Int)) (revA o0 a) = K0 o0.reverse := by
      have fin : ∀ a : Nat, o0.length ≤ 2 * a + 1 → revA o0 a = o0.reverse := by
        intro a ha
        symm
        refine revA_ext (by simp) fun t ht => ?_
        have e : o0.reverse.getD t 0 = o0.getD (o0.length - 1 - t) 0 := by
          rw [getD_of 0 (by simpa using ht), List.getElem_reverse, getD_of 0 (by omega)]
        rw [e]
        split
        · rfl
        · have : o0.length - 1 - t = t := by omega
          rw [this]
      intro d
      induction d with
      | zero =>
        intro a ha
        show s_slices_Reverse_int_int_1 _ _ _ _ _ = _
        unfold s_slices_Reverse_int_int_1
        rw [br_neg (by omega), fin a (by omega)]
      | succ d ih =>
        intro a ha
        show s_slices_Reverse_int_int_1 _ _ _ _ _ = _
        unfold s_slices_Reverse_int_int_1
        by_cases c : (a : Int) < (o0.length : Int) - 1 - (a : Int)
        · have e1 : ((o0.length : Int) - 1 - (a : Int)).toNat = o0.length - 1 - a := by omega
          rw [br_pos c, revA_len, List.length_set, revA_len, br_pos (by omega), br_pos (by omega), br_pos (by omega), br_pos (by omega), wr _ (by omega) (by omega), wr _ (by omega) (by omega), Int.toNat_natCast, e1]
          have e2 : ((revA o0 a).set a ((revA o0 a).getD (o0.length - 1 - a) 0)).set (o0.length - 1 - a) ((revA o0 a).getD a 0) = revA o0 (a + 1) := by
            refine revA_ext (by simp [revA_len]) fun t ht => ?_
            rw [getD_set, getD_set, List.length_set, revA_len, revA_get _ _ _ ht, revA_get _ _ _ (show a < o0.length by omega), revA_get _ _ _ (show o0.length - 1 - a < o0.length by omega)]
            by_cases c1 : o0.length - 1 - a = t
            · rw [if_pos ⟨c1, by omega⟩, if_neg (by omega), if_pos (by omega)]
              congr 1
              omega
            · rw [if_neg (by omega)]
              by_cases c2 : a = t
              · rw [if_pos ⟨c2, by omega⟩, if_neg (by omega), if_pos (by omega), c2]
              · rw [if_neg (by omega)]
                by_cases c3 : t < a ∨ o0.length - a ≤ t
                · rw [if_pos c3, if_pos (by omega)]
                · rw [if_neg c3, if_neg (by omega)]
          rw [e2]
          have e3 : (o0.length : Int) - 1 - (a : Int) - 1 = (o0.length : Int) - 1 - ((a + 1 : Nat) : Int) := by omega
          rw [e3]
          exact ih (a + 1) (by omega)
        · rw [br_neg c, fin a (by omega)]
    have e0 : revA o0 0 = o0 := by
      symm
      refine revA_ext rfl fun t ht => ?_
      rw [if_neg (by omega)]
    have := key o0.length 0 (by omega)
    rw [e0] at this
    unfold e_slices_Reverse_int_int
    rw [wr _ (by omega) (by omega)]
    simpa using this
  · cases h

/-- tutor/differ.back -/
def s_differ_back_2 {R : Type} (g41_2 : (List ((Int × Int) × ((Int × Int) × Int))) → Int → Int → Int → Int → (List Int) → Option R) (K0 : (List ((Int × Int) × ((Int × Int) × Int))) → (List Int) → Option R) (o0 : List ((Int × Int) × ((Int × Int) × Int))) (o1 : Int) (o1_1 : Int) (o2 : Int) (o2_1 : Int) (o3 : List Int) : Option R :=
  bi (!(eqS (.pr (.int .i64) (.int .i64)) (o2, o2_1) (o1, o1_1)))
   (bi (decide ((o3.length + [(mgetD (.pr (.int .i64) (.int .i64)) (.pr (.pr (.int .i64) (.int .i64)) (.int .i64)) o0 (o2, o2_1)).2].length) * 8 ≤ lim))
    (g41_2 o0 o1 o1_1 (((mgetD (.pr (.int .i64) (.int .i64)) (.pr (.pr (.int .i64) (.int .i64)) (.int .i64)) o0 (o2, o2_1)).1).1) (((mgetD (.pr (.int .i64) (.int .i64)) (.pr (.pr (.int .i64) (.int .i64)) (.int .i64)) o0 (o2, o2_1)).1).2) (o3 ++ [(mgetD (.pr (.int .i64) (.int .i64)) (.pr (.pr (.int .i64) (.int .i64)) (.int .i64)) o0 (o2, o2_1)).2]))
    none)
   (l_slices_Reverse_int_int o3
    (fun r1 =>
     K0 o0 r1))

/-- tutor/differ.back -/
def e_differ_back {R : Type} (g41_2 : (List ((Int × Int) × ((Int × Int) × Int))) → Int → Int → Int → Int → (List Int) → Option R) (K0 : (List ((Int × Int) × ((Int × Int) × Int))) → (List Int) → Option R) (start : Int) (start_1 : Int) (p : Int) (p_1 : Int) (o0 : List ((Int × Int) × ((Int × Int) × Int))) : Option R :=
  g41_2 o0 start start_1 p p_1 ([] : List Int)

def run_differ_back {R : Type} (K0 : (List ((Int × Int) × ((Int × Int) × Int))) → (List Int) → Option R) : Nat → (List ((Int × Int) × ((Int × Int) × Int))) → Int → Int → Int → Int → (List Int) → Option R
  | 0 => fun _ _ _ _ _ _ => none
  | n + 1 => s_differ_back_2 (run_differ_back K0 n) K0

def l_differ_back {R : Type} (start : Int) (start_1 : Int) (p : Int) (p_1 : Int) (o0 : List ((Int × Int) × ((Int × Int) × Int))) (K0 : (List ((Int × Int) × ((Int × Int) × Int))) → (List Int) → Option R) : Option R :=
  bi (decide (o0.length ≤ 1000000000)) (match backF o0 (start, start_1) o0.length (p, p_1) with
    | some w => K0 o0 w
    | none => none) none

theorem back_run {R : Type} (o : Came) (s : Int × Int) (K0 : Came → (List Int) → Option R) : ∀ (n : Nat) (q : Int × Int) (w acc : List Int), backF o s n q = some w → acc.length + n ≤ 1000000000 →
    Reach (fun m => run_differ_back K0 m o s.1 s.2 q.1 q.2 acc) (K0 o (w ++ acc.reverse))
  | 0, q, w, acc, h, _ => by cases h
  | n + 1, q, w, acc, h, hl => by
    unfold backF at h
    by_cases c : q = s
    · rw [if_pos c] at h
      cases h
      refine .now fun m => ?_
      show s_differ_back_2 _ _ _ _ _ _ _ _ = _
      unfold s_differ_back_2 l_slices_Reverse_int_int
      rw [show eqS (.pr (.int .i64) (.int .i64)) (q.1, q.2) (s.1, s.2) = decide (q = s) from eqP q s, decide_eq_true c, br_pos (show short acc by unfold short; omega)]
      rfl
    · rw [if_neg c] at h
      cases hf : mfind (.pr (.int .i64) (.int .i64)) (.pr (.pr (.int .i64) (.int .i64)) (.int .i64)) q o with
      | none => rw [hf] at h; cases h
      | some v =>
        rw [hf] at h
        obtain ⟨p, x⟩ := v
        dsimp only at h
        cases hb : backF o s n p with
        | none => rw [hb] at h; cases h
        | some u =>
          rw [hb] at h
          cases h
          have ih := back_run o s K0 n p u (acc ++ [x]) hb (by simp; omega)
          rw [show u ++ [x] ++ acc.reverse = u ++ (acc ++ [x]).reverse by simp]
          refine .step (fun m => ?_) ih
          show s_differ_back_2 _ _ _ _ _ _ _ _ = _
          unfold s_differ_back_2
          have e : mgetD (.pr (.int .i64) (.int .i64)) (.pr (.pr (.int .i64) (.int .i64)) (.int .i64)) o (q.1, q.2) = (p, x) := by
            unfold mgetD
            rw [show mfind (.pr (.int .i64) (.int .i64)) (.pr (.pr (.int .i64) (.int .i64)) (.int .i64)) (q.1, q.2) o = some (p, x) from hf]
            rfl
          rw [show eqS (.pr (.int .i64) (.int .i64)) (q.1, q.2) (s.1, s.2) = decide (q = s) from eqP q s, decide_eq_false c, e]
          rw [show (!false) = true from rfl, br_tt, br_pos (by
            show (acc.length + 1) * 8 ≤ 140737488355328
            omega)]

theorem ok_differ_back {R : Type} (start : Int) (start_1 : Int) (p : Int) (p_1 : Int) (o0 : List ((Int × Int) × ((Int × Int) × Int))) (K0 : (List ((Int × Int) × ((Int × Int) × Int))) → (List Int) → Option R) {r : R} (h : l_differ_back start start_1 p p_1 o0 K0 = some r) : ∃ fuel, e_differ_back (run_differ_back K0 fuel) K0 start start_1 p p_1 o0 = some r := by
  unfold l_differ_back at h
  rcases bi_some h with ⟨hs, h⟩ | ⟨_, h⟩
  · have hs := of_decide_eq_true hs
    cases hb : backF o0 (start, start_1) o0.length (p, p_1) with
    | none => rw [hb] at h; cases h
    | some w =>
      rw [hb] at h
      dsimp only at h
      rw [← h]
      obtain ⟨n, hn⟩ := (back_run o0 (start, start_1) K0 _ _ w [] hb (by simpa using hs)).get
      exact ⟨n, by simpa [e_differ_back] using hn⟩
  · cases h

theorem back_eq {R : Type} {s : Int × Int} {o : Came} {L : List PW} (W : Ways s o L) {e : PW} (he : e ∈ L) (hl : L.length ≤ 1000000000) (K0 : Came → List Int → Option R) :
    l_differ_back s.1 s.2 e.1.1 e.1.2 o K0 = K0 o e.2 := by
  have hk : o.length = L.length := by simpa using congrArg List.length W.keys
  unfold l_differ_back
  rw [br_pos (by omega), hk, show backF o (s.1, s.2) L.length (e.1.1, e.1.2) = some e.2 from W.back e he]

/-- tutor/differ.search -/
def s_differ_search_9 {R : Type} (g28_9 : Int → Int → Int → Int → Int → (List Int) → (List Int) → Int → Int → Int → Int → (List Int) → (List Int) → Int → Int → (List ((Int × Int) × ((Int × Int) × Int))) → (List (Int × Int)) → Int → Int → (List Int) → Option R) (g28_13 : Int → Int → Int → Int → Int → Int → Int → (List Int) → (List Int) → Int → Int → Int → Int → (List Int) → (List Int) → Int → Int → (List ((Int × Int) × ((Int × Int) × Int))) → (List (Int × Int)) → Int → Int → (List Int) → Int → Int → Option R) (K0 : Bool → (List Int) → Option R) (i : Int) (o0 : Int) (o0_1 : Int) (o0_2 : Int) (o0_3 : Int) (o0_4 : List Int) (o0_5 : List Int) (o1 : Int) (o1_1 : Int) (o1_2 : Int) (o1_3 : Int) (o1_4 : List Int) (o1_5 : List Int) (o2 : Int) (o2_1 : Int) (o3 : List ((Int × Int) × ((Int × Int) × Int))) (o4 : List (Int × Int)) (o5 : Int) (o5_1 : Int) (o6 : List Int) : Option R :=
  bi (i == (o4.length : Int))
   (K0 false ([] : List Int))
   (bi (decide (0 ≤ i ∧ i < ((o4.length : Nat) : Int)))
    (g28_13 i o0_1 0 o0 o0_1 o0_2 o0_3 o0_4 o0_5 o1 o1_1 o1_2 o1_3 o1_4 o1_5 o2 o2_1 o3 o4 o5 o5_1 o6 ((o4.getD i.toNat (0, 0)).1) ((o4.getD i.toNat (0, 0)).2))
    none)

/-- tutor/differ.search -/
def s_differ_search_13 {R : Type} (g28_9 : Int → Int → Int → Int → Int → (List Int) → (List Int) → Int → Int → Int → Int → (List Int) → (List Int) → Int → Int → (List ((Int × Int) × ((Int × Int) × Int))) → (List (Int × Int)) → Int → Int → (List Int) → Option R) (g28_13 : Int → Int → Int → Int → Int → Int → Int → (List Int) → (List Int) → Int → Int → Int → Int → (List Int) → (List Int) → Int → Int → (List ((Int × Int) × ((Int × Int) × Int))) → (List (Int × Int)) → Int → Int → (List Int) → Int → Int → Option R) (K0 : Bool → (List Int) → Option R) (i : Int) (x55 : Int) (x56 : Int) (o0 : Int) (o0_1 : Int) (o0_2 : Int) (o0_3 : Int) (o0_4 : List Int) (o0_5 : List Int) (o1 : Int) (o1_1 : Int) (o1_2 : Int) (o1_3 : Int) (o1_4 : List Int) (o1_5 : List Int) (o2 : Int) (o2_1 : Int) (o3 : List ((Int × Int) × ((Int × Int) × Int))) (o4 : List (Int × Int)) (o5 : Int) (o5_1 : Int) (o6 : List Int) (o7 : Int) (o7_1 : Int) : Option R :=
  bi (decide (x56 < x55))
   (bi (decide (0 ≤ (IntKind.i64.wrap ((IntKind.i64.wrap (o7 * o0_1)) + x56)) ∧ (IntKind.i64.wrap ((IntKind.i64.wrap (o7 * o0_1)) + x56)) < ((o0_4.length : Nat) : Int)))
    (bi (decide (0 ≤ (IntKind.i64.wrap ((IntKind.i64.wrap (o7_1 * o1_1)) + x56)) ∧ (IntKind.i64.wrap ((IntKind.i64.wrap (o7_1 * o1_1)) + x56)) < ((o1_4.length : Nat) : Int)))
     (both
      (bi (o0 == 2)
       (bi (decide (0 ≤ (IntKind.i64.wrap ((IntKind.i64.wrap (o7 * o0_1)) + x56)) ∧ (IntKind.i64.wrap ((IntKind.i64.wrap (o7 * o0_1)) + x56)) < ((o0_5.length : Nat) : Int)))
        (bi (decide (0 ≤ (IntKind.i64.wrap ((IntKind.i64.wrap (o7_1 * o1_1)) + x56)) ∧ (IntKind.i64.wrap ((IntKind.i64.wrap (o7_1 * o1_1)) + x56)) < ((o1_5.length : Nat) : Int)))
         (bi ((o0_5.getD ((IntKind.i64.wrap ((IntKind.i64.wrap (o7 * o0_1)) + x56)).toNat) 0) != (o1_5.getD ((IntKind.i64.wrap ((IntKind.i64.wrap (o7_1 * o1_1)) + x56)).toNat) 0))
          (l_differ_back o2 o2_1 o7 o7_1 o3
           (fun r1 r2 =>
            bi (decide ((r2.length + [x56].length) * 8 ≤ lim))
             (K0 true (r2 ++ [x56]))
             none))
          (bi (mhas (.pr (.int .i64) (.int .i64)) (.pr (.pr (.int .i64) (.int .i64)) (.int .i64)) o3 (o0_4.getD ((IntKind.i64.wrap ((IntKind.i64.wrap (o7 * o0_1)) + x56)).toNat) 0, o1_4.getD ((IntKind.i64.wrap ((IntKind.i64.wrap (o7_1 * o1_1)) + x56)).toNat) 0))
           (g28_13 i x55 (IntKind.i64.wrap (x56 + 1)) o0 o0_1 o0_2 o0_3 o0_4 o0_5 o1 o1_1 o1_2 o1_3 o1_4 o1_5 o2 o2_1 o3 o4 o5 o5_1 o6 o7 o7_1)
           (bi (decide ((o4.length + [(o0_4.getD ((IntKind.i64.wrap ((IntKind.i64.wrap (o7 * o0_1)) + x56)).toNat) 0, o1_4.getD ((IntKind.i64.wrap ((IntKind.i64.wrap (o7_1 * o1_1)) + x56)).toNat) 0)].length) * 16 ≤ lim))
            (bi (o0 == 1)
             (bi (decide (0 ≤ (o0_4.getD ((IntKind.i64.wrap ((IntKind.i64.wrap (o7 * o0_1)) + x56)).toNat) 0) ∧ (o0_4.getD ((IntKind.i64.wrap ((IntKind.i64.wrap (o7 * o0_1)) + x56)).toNat) 0) < ((o0_5.length : Nat) : Int)))
              (bi (decide (0 ≤ (o1_4.getD ((IntKind.i64.wrap ((IntKind.i64.wrap (o7_1 * o1_1)) + x56)).toNat) 0) ∧ (o1_4.getD ((IntKind.i64.wrap ((IntKind.i64.wrap (o7_1 * o1_1)) + x56)).toNat) 0) < ((o1_5.length : Nat) : Int)))
               (bi ((o0_5.getD ((o0_4.getD ((IntKind.i64.wrap ((IntKind.i64.wrap (o7 * o0_1)) + x56)).toNat) 0).toNat) 0) != (o1_5.getD ((o1_4.getD ((IntKind.i64.wrap ((IntKind.i64.wrap (o7_1 * o1_1)) + x56)).toNat) 0).toNat) 0))
                (l_differ_back o2 o2_1 (o0_4.getD ((IntKind.i64.wrap ((IntKind.i64.wrap (o7 * o0_1)) + x56)).toNat) 0) (o1_4.getD ((IntKind.i64.wrap ((IntKind.i64.wrap (o7_1 * o1_1)) + x56)).toNat) 0) (mput (.pr (.int .i64) (.int .i64)) (.pr (.pr (.int .i64) (.int .i64)) (.int .i64)) (o0_4.getD ((IntKind.i64.wrap ((IntKind.i64.wrap (o7 * o0_1)) + x56)).toNat) 0, o1_4.getD ((IntKind.i64.wrap ((IntKind.i64.wrap (o7_1 * o1_1)) + x56)).toNat) 0) ((o7, o7_1), x56) o3)
                 (fun r3 r4 =>
                  bi (decide ((r4.length + o6.length) * 8 ≤ lim))
                   (K0 true (r4 ++ o6))
                   none))
                (g28_13 i x55 (IntKind.i64.wrap (x56 + 1)) o0 o0_1 o0_2 o0_3 o0_4 o0_5 o1 o1_1 o1_2 o1_3 o1_4 o1_5 o2 o2_1 (mput (.pr (.int .i64) (.int .i64)) (.pr (.pr (.int .i64) (.int .i64)) (.int .i64)) (o0_4.getD ((IntKind.i64.wrap ((IntKind.i64.wrap (o7 * o0_1)) + x56)).toNat) 0, o1_4.getD ((IntKind.i64.wrap ((IntKind.i64.wrap (o7_1 * o1_1)) + x56)).toNat) 0) ((o7, o7_1), x56) o3) (o4 ++ [(o0_4.getD ((IntKind.i64.wrap ((IntKind.i64.wrap (o7 * o0_1)) + x56)).toNat) 0, o1_4.getD ((IntKind.i64.wrap ((IntKind.i64.wrap (o7_1 * o1_1)) + x56)).toNat) 0)]) o5 o5_1 o6 o7 o7_1))
               none)
              none)
             (g28_13 i x55 (IntKind.i64.wrap (x56 + 1)) o0 o0_1 o0_2 o0_3 o0_4 o0_5 o1 o1_1 o1_2 o1_3 o1_4 o1_5 o2 o2_1 (mput (.pr (.int .i64) (.int .i64)) (.pr (.pr (.int .i64) (.int .i64)) (.int .i64)) (o0_4.getD ((IntKind.i64.wrap ((IntKind.i64.wrap (o7 * o0_1)) + x56)).toNat) 0, o1_4.getD ((IntKind.i64.wrap ((IntKind.i64.wrap (o7_1 * o1_1)) + x56)).toNat) 0) ((o7, o7_1), x56) o3) (o4 ++ [(o0_4.getD ((IntKind.i64.wrap ((IntKind.i64.wrap (o7 * o0_1)) + x56)).toNat) 0, o1_4.getD ((IntKind.i64.wrap ((IntKind.i64.wrap (o7_1 * o1_1)) + x56)).toNat) 0)]) o5 o5_1 o6 o7 o7_1))
            none)))
         none)
        none)
       (bi (mhas (.pr (.int .i64) (.int .i64)) (.pr (.pr (.int .i64) (.int .i64)) (.int .i64)) o3 (o0_4.getD ((IntKind.i64.wrap ((IntKind.i64.wrap (o7 * o0_1)) + x56)).toNat) 0, o1_4.getD ((IntKind.i64.wrap ((IntKind.i64.wrap (o7_1 * o1_1)) + x56)).toNat) 0))
        (g28_13 i x55 (IntKind.i64.wrap (x56 + 1)) o0 o0_1 o0_2 o0_3 o0_4 o0_5 o1 o1_1 o1_2 o1_3 o1_4 o1_5 o2 o2_1 o3 o4 o5 o5_1 o6 o7 o7_1)
        (bi (decide ((o4.length + [(o0_4.getD ((IntKind.i64.wrap ((IntKind.i64.wrap (o7 * o0_1)) + x56)).toNat) 0, o1_4.getD ((IntKind.i64.wrap ((IntKind.i64.wrap (o7_1 * o1_1)) + x56)).toNat) 0)].length) * 16 ≤ lim))
         (bi (o0 == 1)
          (bi (decide (0 ≤ (o0_4.getD ((IntKind.i64.wrap ((IntKind.i64.wrap (o7 * o0_1)) + x56)).toNat) 0) ∧ (o0_4.getD ((IntKind.i64.wrap ((IntKind.i64.wrap (o7 * o0_1)) + x56)).toNat) 0) < ((o0_5.length : Nat) : Int)))
           (bi (decide (0 ≤ (o1_4.getD ((IntKind.i64.wrap ((IntKind.i64.wrap (o7_1 * o1_1)) + x56)).toNat) 0) ∧ (o1_4.getD ((IntKind.i64.wrap ((IntKind.i64.wrap (o7_1 * o1_1)) + x56)).toNat) 0) < ((o1_5.length : Nat) : Int)))
            (bi ((o0_5.getD ((o0_4.getD ((IntKind.i64.wrap ((IntKind.i64.wrap (o7 * o0_1)) + x56)).toNat) 0).toNat) 0) != (o1_5.getD ((o1_4.getD ((IntKind.i64.wrap ((IntKind.i64.wrap (o7_1 * o1_1)) + x56)).toNat) 0).toNat) 0))
             (l_differ_back o2 o2_1 (o0_4.getD ((IntKind.i64.wrap ((IntKind.i64.wrap (o7 * o0_1)) + x56)).toNat) 0) (o1_4.getD ((IntKind.i64.wrap ((IntKind.i64.wrap (o7_1 * o1_1)) + x56)).toNat) 0) (mput (.pr (.int .i64) (.int .i64)) (.pr (.pr (.int .i64) (.int .i64)) (.int .i64)) (o0_4.getD ((IntKind.i64.wrap ((IntKind.i64.wrap (o7 * o0_1)) + x56)).toNat) 0, o1_4.getD ((IntKind.i64.wrap ((IntKind.i64.wrap (o7_1 * o1_1)) + x56)).toNat) 0) ((o7, o7_1), x56) o3)
              (fun r5 r6 =>
               bi (decide ((r6.length + o6.length) * 8 ≤ lim))
                (K0 true (r6 ++ o6))
                none))
             (g28_13 i x55 (IntKind.i64.wrap (x56 + 1)) o0 o0_1 o0_2 o0_3 o0_4 o0_5 o1 o1_1 o1_2 o1_3 o1_4 o1_5 o2 o2_1 (mput (.pr (.int .i64) (.int .i64)) (.pr (.pr (.int .i64) (.int .i64)) (.int .i64)) (o0_4.getD ((IntKind.i64.wrap ((IntKind.i64.wrap (o7 * o0_1)) + x56)).toNat) 0, o1_4.getD ((IntKind.i64.wrap ((IntKind.i64.wrap (o7_1 * o1_1)) + x56)).toNat) 0) ((o7, o7_1), x56) o3) (o4 ++ [(o0_4.getD ((IntKind.i64.wrap ((IntKind.i64.wrap (o7 * o0_1)) + x56)).toNat) 0, o1_4.getD ((IntKind.i64.wrap ((IntKind.i64.wrap (o7_1 * o1_1)) + x56)).toNat) 0)]) o5 o5_1 o6 o7 o7_1))
            none)
           none)
          (g28_13 i x55 (IntKind.i64.wrap (x56 + 1)) o0 o0_1 o0_2 o0_3 o0_4 o0_5 o1 o1_1 o1_2 o1_3 o1_4 o1_5 o2 o2_1 (mput (.pr (.int .i64) (.int .i64)) (.pr (.pr (.int .i64) (.int .i64)) (.int .i64)) (o0_4.getD ((IntKind.i64.wrap ((IntKind.i64.wrap (o7 * o0_1)) + x56)).toNat) 0, o1_4.getD ((IntKind.i64.wrap ((IntKind.i64.wrap (o7_1 * o1_1)) + x56)).toNat) 0) ((o7, o7_1), x56) o3) (o4 ++ [(o0_4.getD ((IntKind.i64.wrap ((IntKind.i64.wrap (o7 * o0_1)) + x56)).toNat) 0, o1_4.getD ((IntKind.i64.wrap ((IntKind.i64.wrap (o7_1 * o1_1)) + x56)).toNat) 0)]) o5 o5_1 o6 o7 o7_1))
         none)))
      (bi (o0 == 2)
       (bi (decide (0 ≤ (IntKind.i64.wrap ((IntKind.i64.wrap (o7 * o0_1)) + x56)) ∧ (IntKind.i64.wrap ((IntKind.i64.wrap (o7 * o0_1)) + x56)) < ((o0_5.length : Nat) : Int)))
        (bi (decide (0 ≤ (IntKind.i64.wrap ((IntKind.i64.wrap (o7_1 * o1_1)) + x56)) ∧ (IntKind.i64.wrap ((IntKind.i64.wrap (o7_1 * o1_1)) + x56)) < ((o1_5.length : Nat) : Int)))
         (bi ((o0_5.getD ((IntKind.i64.wrap ((IntKind.i64.wrap (o7 * o0_1)) + x56)).toNat) 0) != (o1_5.getD ((IntKind.i64.wrap ((IntKind.i64.wrap (o7_1 * o1_1)) + x56)).toNat) 0))
          (l_differ_back o2 o2_1 o7 o7_1 o3
           (fun r7 r8 =>
            bi (decide ((r8.length + [x56].length) * 8 ≤ lim))
             (K0 true (r8 ++ [x56]))
             none))
          (bi (mhas (.pr (.int .i64) (.int .i64)) (.pr (.pr (.int .i64) (.int .i64)) (.int .i64)) o3 (o0_4.getD ((IntKind.i64.wrap ((IntKind.i64.wrap (o7 * o0_1)) + x56)).toNat) 0, o1_4.getD ((IntKind.i64.wrap ((IntKind.i64.wrap (o7_1 * o1_1)) + x56)).toNat) 0))
           (g28_13 i x55 (IntKind.i64.wrap (x56 + 1)) o0 o0_1 o0_2 o0_3 o0_4 o0_5 o1 o1_1 o1_2 o1_3 o1_4 o1_5 o2 o2_1 o3 o4 o5 o5_1 o6 o7 o7_1)
           (bi (decide ((o4.length + [(o0_4.getD ((IntKind.i64.wrap ((IntKind.i64.wrap (o7 * o0_1)) + x56)).toNat) 0, o1_4.getD ((IntKind.i64.wrap ((IntKind.i64.wrap (o7_1 * o1_1)) + x56)).toNat) 0)].length) * 16 ≤ lim))
            (bi (o0 == 1)
             (bi (decide (0 ≤ (o0_4.getD ((IntKind.i64.wrap ((IntKind.i64.wrap (o7 * o0_1)) + x56)).toNat) 0) ∧ (o0_4.getD ((IntKind.i64.wrap ((IntKind.i64.wrap (o7 * o0_1)) + x56)).toNat) 0) < ((o0_5.length : Nat) : Int)))
              (bi (decide (0 ≤ (o1_4.getD ((IntKind.i64.wrap ((IntKind.i64.wrap (o7_1 * o1_1)) + x56)).toNat) 0) ∧ (o1_4.getD ((IntKind.i64.wrap ((IntKind.i64.wrap (o7_1 * o1_1)) + x56)).toNat) 0) < ((o1_5.length : Nat) : Int)))
               (bi ((o0_5.getD ((o0_4.getD ((IntKind.i64.wrap ((IntKind.i64.wrap (o7 * o0_1)) + x56)).toNat) 0).toNat) 0) != (o1_5.getD ((o1_4.getD ((IntKind.i64.wrap ((IntKind.i64.wrap (o7_1 * o1_1)) + x56)).toNat) 0).toNat) 0))
                (l_differ_back o2 o2_1 (o0_4.getD ((IntKind.i64.wrap ((IntKind.i64.wrap (o7 * o0_1)) + x56)).toNat) 0) (o1_4.getD ((IntKind.i64.wrap ((IntKind.i64.wrap (o7_1 * o1_1)) + x56)).toNat) 0) (mput (.pr (.int .i64) (.int .i64)) (.pr (.pr (.int .i64) (.int .i64)) (.int .i64)) (o0_4.getD ((IntKind.i64.wrap ((IntKind.i64.wrap (o7 * o0_1)) + x56)).toNat) 0, o1_4.getD ((IntKind.i64.wrap ((IntKind.i64.wrap (o7_1 * o1_1)) + x56)).toNat) 0) ((o7, o7_1), x56) o3)
                 (fun r9 r10 =>
                  bi (decide ((r10.length + o6.length) * 8 ≤ lim))
                   (K0 true (r10 ++ o6))
                   none))
                (g28_13 i x55 (IntKind.i64.wrap (x56 + 1)) o0 o0_1 o0_2 o0_3 o0_4 o0_5 o1 o1_1 o1_2 o1_3 o1_4 o1_5 o2 o2_1 (mput (.pr (.int .i64) (.int .i64)) (.pr (.pr (.int .i64) (.int .i64)) (.int .i64)) (o0_4.getD ((IntKind.i64.wrap ((IntKind.i64.wrap (o7 * o0_1)) + x56)).toNat) 0, o1_4.getD ((IntKind.i64.wrap ((IntKind.i64.wrap (o7_1 * o1_1)) + x56)).toNat) 0) ((o7, o7_1), x56) o3) (o4 ++ [(o0_4.getD ((IntKind.i64.wrap ((IntKind.i64.wrap (o7 * o0_1)) + x56)).toNat) 0, o1_4.getD ((IntKind.i64.wrap ((IntKind.i64.wrap (o7_1 * o1_1)) + x56)).toNat) 0)]) o5 o5_1 o6 o7 o7_1))
               none)
              none)
             (g28_13 i x55 (IntKind.i64.wrap (x56 + 1)) o0 o0_1 o0_2 o0_3 o0_4 o0_5 o1 o1_1 o1_2 o1_3 o1_4 o1_5 o2 o2_1 (mput (.pr (.int .i64) (.int .i64)) (.pr (.pr (.int .i64) (.int .i64)) (.int .i64)) (o0_4.getD ((IntKind.i64.wrap ((IntKind.i64.wrap (o7 * o0_1)) + x56)).toNat) 0, o1_4.getD ((IntKind.i64.wrap ((IntKind.i64.wrap (o7_1 * o1_1)) + x56)).toNat) 0) ((o7, o7_1), x56) o3) (o4 ++ [(o0_4.getD ((IntKind.i64.wrap ((IntKind.i64.wrap (o7 * o0_1)) + x56)).toNat) 0, o1_4.getD ((IntKind.i64.wrap ((IntKind.i64.wrap (o7_1 * o1_1)) + x56)).toNat) 0)]) o5 o5_1 o6 o7 o7_1))
            none)))
         none)
        none)
       (bi (mhas (.pr (.int .i64) (.int .i64)) (.pr (.pr (.int .i64) (.int .i64)) (.int .i64)) o3 (o0_4.getD ((IntKind.i64.wrap ((IntKind.i64.wrap (o7 * o0_1)) + x56)).toNat) 0, o1_4.getD ((IntKind.i64.wrap ((IntKind.i64.wrap (o7_1 * o1_1)) + x56)).toNat) 0))
        (g28_13 i x55 (IntKind.i64.wrap (x56 + 1)) o0 o0_1 o0_2 o0_3 o0_4 o0_5 o1 o1_1 o1_2 o1_3 o1_4 o1_5 o2 o2_1 o3 o4 o5 o5_1 o6 o7 o7_1)
        (bi (decide ((o4.length + [(o0_4.getD ((IntKind.i64.wrap ((IntKind.i64.wrap (o7 * o0_1)) + x56)).toNat) 0, o1_4.getD ((IntKind.i64.wrap ((IntKind.i64.wrap (o7_1 * o1_1)) + x56)).toNat) 0)].length) * 16 ≤ lim))
         (bi (o0 == 1)
          (bi (decide (0 ≤ (o0_4.getD ((IntKind.i64.wrap ((IntKind.i64.wrap (o7 * o0_1)) + x56)).toNat) 0) ∧ (o0_4.getD ((IntKind.i64.wrap ((IntKind.i64.wrap (o7 * o0_1)) + x56)).toNat) 0) < ((o0_5.length : Nat) : Int)))
           (bi (decide (0 ≤ (o1_4.getD ((IntKind.i64.wrap ((IntKind.i64.wrap (o7_1 * o1_1)) + x56)).toNat) 0) ∧ (o1_4.getD ((IntKind.i64.wrap ((IntKind.i64.wrap (o7_1 * o1_1)) + x56)).toNat) 0) < ((o1_5.length : Nat) : Int)))
            (bi ((o0_5.getD ((o0_4.getD ((IntKind.i64.wrap ((IntKind.i64.wrap (o7 * o0_1)) + x56)).toNat) 0).toNat) 0) != (o1_5.getD ((o1_4.getD ((IntKind.i64.wrap ((IntKind.i64.wrap (o7_1 * o1_1)) + x56)).toNat) 0).toNat) 0))
             (l_differ_back o2 o2_1 (o0_4.getD ((IntKind.i64.wrap ((IntKind.i64.wrap (o7 * o0_1)) + x56)).toNat) 0) (o1_4.getD ((IntKind.i64.wrap ((IntKind.i64.wrap (o7_1 * o1_1)) + x56)).toNat) 0) (mput (.pr (.int .i64) (.int .i64)) (.pr (.pr (.int .i64) (.int .i64)) (.int .i64)) (o0_4.getD ((IntKind.i64.wrap ((IntKind.i64.wrap (o7 * o0_1)) + x56)).toNat) 0, o1_4.getD ((IntKind.i64.wrap ((IntKind.i64.wrap (o7_1 * o1_1)) + x56)).toNat) 0) ((o7, o7_1), x56) o3)
              (fun r11 r12 =>
               bi (decide ((r12.length + o6.length) * 8 ≤ lim))
                (K0 true (r12 ++ o6))
                none))
             (g28_13 i x55 (IntKind.i64.wrap (x56 + 1)) o0 o0_1 o0_2 o0_3 o0_4 o0_5 o1 o1_1 o1_2 o1_3 o1_4 o1_5 o2 o2_1 (mput (.pr (.int .i64) (.int .i64)) (.pr (.pr (.int .i64) (.int .i64)) (.int .i64)) (o0_4.getD ((IntKind.i64.wrap ((IntKind.i64.wrap (o7 * o0_1)) + x56)).toNat) 0, o1_4.getD ((IntKind.i64.wrap ((IntKind.i64.wrap (o7_1 * o1_1)) + x56)).toNat) 0) ((o7, o7_1), x56) o3) (o4 ++ [(o0_4.getD ((IntKind.i64.wrap ((IntKind.i64.wrap (o7 * o0_1)) + x56)).toNat) 0, o1_4.getD ((IntKind.i64.wrap ((IntKind.i64.wrap (o7_1 * o1_1)) + x56)).toNat) 0)]) o5 o5_1 o6 o7 o7_1))
            none)
           none)
          (g28_13 i x55 (IntKind.i64.wrap (x56 + 1)) o0 o0_1 o0_2 o0_3 o0_4 o0_5 o1 o1_1 o1_2 o1_3 o1_4 o1_5 o2 o2_1 (mput (.pr (.int .i64) (.int .i64)) (.pr (.pr (.int .i64) (.int .i64)) (.int .i64)) (o0_4.getD ((IntKind.i64.wrap ((IntKind.i64.wrap (o7 * o0_1)) + x56)).toNat) 0, o1_4.getD ((IntKind.i64.wrap ((IntKind.i64.wrap (o7_1 * o1_1)) + x56)).toNat) 0) ((o7, o7_1), x56) o3) (o4 ++ [(o0_4.getD ((IntKind.i64.wrap ((IntKind.i64.wrap (o7 * o0_1)) + x56)).toNat) 0, o1_4.getD ((IntKind.i64.wrap ((IntKind.i64.wrap (o7_1 * o1_1)) + x56)).toNat) 0)]) o5 o5_1 o6 o7 o7_1))
         none))))
     none)
    none)
   (g28_9 (IntKind.i64.wrap (i + 1)) o0 o0_1 o0_2 o0_3 o0_4 o0_5 o1 o1_1 o1_2 o1_3 o1_4 o1_5 o2 o2_1 o3 o4 o5 o5_1 o6)

/-- tutor/differ.search -/
def e_differ_search {R : Type} (g28_9 : Int → Int → Int → Int → Int → (List Int) → (List Int) → Int → Int → Int → Int → (List Int) → (List Int) → Int → Int → (List ((Int × Int) × ((Int × Int) × Int))) → (List (Int × Int)) → Int → Int → (List Int) → Option R) (g28_13 : Int → Int → Int → Int → Int → Int → Int → (List Int) → (List Int) → Int → Int → Int → Int → (List Int) → (List Int) → Int → Int → (List ((Int × Int) × ((Int × Int) × Int))) → (List (Int × Int)) → Int → Int → (List Int) → Int → Int → Option R) (K0 : Bool → (List Int) → Option R) (a : Int) (a_1 : Int) (a_2 : Int) (a_3 : Int) (a_4 : List Int) (a_5 : List Int) (b : Int) (b_1 : Int) (b_2 : Int) (b_3 : Int) (b_4 : List Int) (b_5 : List Int) (start : Int) (start_1 : Int) : Option R :=
  bi (a == 1)
   (bi (decide (0 ≤ start ∧ start < ((a_5.length : Nat) : Int)))
    (bi (decide (0 ≤ start_1 ∧ start_1 < ((b_5.length : Nat) : Int)))
     (bi ((a_5.getD start.toNat 0) != (b_5.getD start_1.toNat 0))
      (K0 true ([] : List Int))
      (g28_9 0 a a_1 a_2 a_3 a_4 a_5 b b_1 b_2 b_3 b_4 b_5 start start_1 (mput (.pr (.int .i64) (.int .i64)) (.pr (.pr (.int .i64) (.int .i64)) (.int .i64)) (start, start_1) ((0, 0), 0) ([] : List ((Int × Int) × ((Int × Int) × Int)))) [(start, start_1)] 0 0 ([] : List Int)))
     none)
    none)
   (g28_9 0 a a_1 a_2 a_3 a_4 a_5 b b_1 b_2 b_3 b_4 b_5 start start_1 (mput (.pr (.int .i64) (.int .i64)) (.pr (.pr (.int .i64) (.int .i64)) (.int .i64)) (start, start_1) ((0, 0), 0) ([] : List ((Int × Int) × ((Int × Int) × Int)))) [(start, start_1)] 0 0 ([] : List Int))

def run_differ_search {R : Type} (K0 : Bool → (List Int) → Option R) : Nat → (Int → Int → Int → Int → Int → (List Int) → (List Int) → Int → Int → Int → Int → (List Int) → (List Int) → Int → Int → (List ((Int × Int) × ((Int × Int) × Int))) → (List (Int × Int)) → Int → Int → (List Int) → Option R) × (Int → Int → Int → Int → Int → Int → Int → (List Int) → (List Int) → Int → Int → Int → Int → (List Int) → (List Int) → Int → Int → (List ((Int × Int) × ((Int × Int) × Int))) → (List (Int × Int)) → Int → Int → (List Int) → Int → Int → Option R)
  | 0 => (fun _ _ _ _ _ _ _ _ _ _ _ _ _ _ _ _ _ _ _ _ => none, fun _ _ _ _ _ _ _ _ _ _ _ _ _ _ _ _ _ _ _ _ _ _ _ _ => none)
  | n + 1 => (s_differ_search_9 (run_differ_search K0 n).1 (run_differ_search K0 n).2 K0, s_differ_search_13 (run_differ_search K0 n).1 (run_differ_search K0 n).2 K0)

def l_differ_search {R : Type} (a : Int) (a_1 : Int) (a_2 : Int) (a_3 : Int) (a_4 : List Int) (a_5 : List Int) (b : Int) (b_1 : Int) (b_2 : Int) (b_3 : Int) (b_4 : List Int) (b_5 : List Int) (start : Int) (start_1 : Int) (K0 : Bool → (List Int) → Option R) : Option R :=
  bi (decide ((checkR a a_1 a_2 a_3 a_4 a_5).2 = 0 ∧ (checkR b b_1 b_2 b_3 b_4 b_5).2 = 0 ∧ a = b ∧ a_1 = b_1 ∧ (0 ≤ start ∧ start < a_3) ∧ (0 ≤ start_1 ∧ start_1 < b_3)))
    (K0 (searchS ⟨a, a_1, a_3, b_3, a_4, a_5, b_4, b_5⟩ (start, start_1)).1 (searchS ⟨a, a_1, a_3, b_3, a_4, a_5, b_4, b_5⟩ (start, start_1)).2) none

theorem rows_get (L : List PW) (i : Nat) : (L.map (·.1)).getD i (0, 0) = (L.getD i pw0).1 := by
  simp only [List.getD_eq_getElem?_getD, List.getElem?_map]
  cases L[i]? <;> rfl

theorem search_run {R : Type} {D : Duo} {O O' : Int} (A : Fine D.k D.K O D.N D.nx D.ou) (B : Fine D.k D.K O' D.M D.nx' D.ou') (s : Int × Int) (K0 : Bool → List Int → Option R) :
    ∀ (n i x : Nat) (L : List PW) (o : Came) (r : Bool × List Int), bfs D n i x L = some r → Inv D s L → Ways s o L → i < L.length → x ≤ D.K.toNat →
    Reach (fun m => (run_differ_search K0 m).2 i D.K x D.k D.K O D.N D.nx D.ou D.k D.K O' D.M D.nx' D.ou' s.1 s.2 o (L.map (·.1)) 0 0 [] (L.getD i pw0).1.1 (L.getD i pw0).1.2) (K0 r.1 r.2)
  | 0, _, _, _, _, _, h, _, _, _, _ => by cases h
  | n + 1, i, x, L, o, r, h, I, W, hi, hx => by
    have F : D.Fine := ⟨⟨O, A⟩, ⟨O', B⟩⟩
    have hK := A.fK
    have hNK := mulK ⟨A.fN, A.fK⟩
    have hMK := mulK ⟨B.fN, B.fK⟩
    have hNM := mul_most A.fN B.fN
    have hmost := I.most
    have hm : L.getD i pw0 ∈ L := getD_mem hi
    have hp := I.inn _ hm
    unfold bfs at h
    by_cases c : (x : Int) < D.K
    · rw [if_pos c] at h
      have hx' : 0 ≤ (x : Int) ∧ (x : Int) < D.K := ⟨by omega, c⟩
      have i1 := idx_in hp.1 hx'
      have i2 := idx_in hp.2 hx'
      have f1 := A.fnx
      have f2 := B.fnx
      have hq := nxt_inn F hp hx'
      have hlen := I.len i hi
      have hrow : (L.map (·.1)).length = L.length := List.length_map _
      have key : ∀ m, (run_differ_search K0 (m + 1)).2 i D.K x D.k D.K O D.N D.nx D.ou D.k D.K O' D.M D.nx' D.ou' s.1 s.2 o (L.map (·.1)) 0 0 [] (L.getD i pw0).1.1 (L.getD i pw0).1.2 =
          if D.sy (L.getD i pw0).1 x || D.st (D.nxt (L.getD i pw0).1 x) then K0 true ((L.getD i pw0).2 ++ [(x : Int)])
          else if known L (D.nxt (L.getD i pw0).1 x) then (run_differ_search K0 m).2 i D.K ((x + 1 : Nat) : Int) D.k D.K O D.N D.nx D.ou D.k D.K O' D.M D.nx' D.ou' s.1 s.2 o (L.map (·.1)) 0 0 [] (L.getD i pw0).1.1 (L.getD i pw0).1.2
          else (run_differ_search K0 m).2 i D.K ((x + 1 : Nat) : Int) D.k D.K O D.N D.nx D.ou D.k D.K O' D.M D.nx' D.ou' s.1 s.2 (o ++ [(D.nxt (L.getD i pw0).1 x, ((L.getD i pw0).1, (x : Int)))]) (L.map (·.1) ++ [D.nxt (L.getD i pw0).1 x]) 0 0 [] (L.getD i pw0).1.1 (L.getD i pw0).1.2 := by
        intro m
        show s_differ_search_13 _ _ _ _ _ _ _ _ _ _ _ _ _ _ _ _ _ _ _ _ _ _ _ _ _ _ _ = _
        unfold s_differ_search_13
        simp only [both_same]
        generalize hP : L.getD i pw0 = P at *
        obtain ⟨⟨p1, p2⟩, w⟩ := P
        dsimp only at hp i1 i2 hq hlen ⊢
        rw [br_pos c, wr (p1 * D.K) (by omega) (by omega), wr (p2 * D.K) (by omega) (by omega), wr (p1 * D.K + x) (by omega) (by omega), wr (p2 * D.K + x) (by omega) (by omega), wr ((x : Int) + 1) (by omega) (by omega)]
        rw [br_pos (by omega), br_pos (by omega)]
        have hmh := mhas_known W (D.nxt (p1, p2) x)
        have hst : D.k = 2 → ∀ q, D.st q = false := fun h q => by unfold Duo.st; rw [h]; rfl
        have hsy : D.k = 1 → ∀ q y, D.sy q y = false := fun h q y => by unfold Duo.sy; rw [h]; rfl
        have hQ : D.nxt (p1, p2) x = (D.nx.getD (p1 * D.K + x).toNat 0, D.nx'.getD (p2 * D.K + x).toNat 0) := rfl
        rw [← hQ]
        rw [show D.nx.getD (p1 * D.K + x).toNat 0 = (D.nxt (p1, p2) x).1 from rfl, show D.nx'.getD (p2 * D.K + x).toNat 0 = (D.nxt (p1, p2) x).2 from rfl]
        generalize hq' : D.nxt (p1, p2) x = q at *
        rw [show mhas (.pr (.int .i64) (.int .i64)) (.pr (.pr (.int .i64) (.int .i64)) (.int .i64)) o q = known L q from hmh]
        have hpl : ((L.map (·.1)).length + [q].length) * 16 ≤ lim := by
          rw [hrow]
          show (L.length + 1) * 16 ≤ 140737488355328
          omega
        have hsame : known L q = true → D.st q = false := fun hk => by
          obtain ⟨e, he, rfl⟩ := List.mem_map.1 (known_iff.1 hk)
          exact I.st e he
        have hnew : known L q = false → mput (.pr (.int .i64) (.int .i64)) (.pr (.pr (.int .i64) (.int .i64)) (.int .i64)) q ((p1, p2), (x : Int)) o = o ++ [(q, ((p1, p2), (x : Int)))] := fun hk => mput_new (by
          rw [W.keys]
          intro hm
          rw [known_iff.2 hm] at hk
          cases hk)
        rcases A.fk with hk | hk
        · rw [br_eq' (by omega), hsy hk, Bool.false_or]
          have g1 := A.fou1 hk
          have g2 := B.fou1 hk
          cases hkn : known L q with
          | true =>
            rw [br_tt, hsame hkn, if_neg (by decide), if_pos rfl]
            rfl
          | false =>
            rw [br_ff, br_pos hpl, br_eq hk, br_pos (by have := hq.1; omega), br_pos (by have := hq.2; omega), hnew hkn]
            have hs : D.st q = (D.ou.getD q.1.toNat 0 != D.ou'.getD q.2.toNat 0) := by unfold Duo.st; rw [hk]; rfl
            rw [← hs]
            cases hst' : D.st q with
            | true =>
              rw [br_tt, if_pos rfl]
              have Wp := W.push (e := ((p1, p2), w)) hm hkn x
              rw [show l_differ_back s.1 s.2 q.1 q.2 (o ++ [(q, ((p1, p2), (x : Int)))]) _ = _ from back_eq Wp (e := (q, w ++ [(x : Int)])) (by simp) (by simp; omega) _]
              dsimp only
              rw [br_pos (by
                rw [List.length_append]
                show (w.length + 1 + 0) * 8 ≤ 140737488355328
                omega), List.append_nil]
            | false =>
              rw [br_ff, if_neg (by decide), if_neg (by decide)]
              rfl
        · have g1 := A.fou2 hk
          have g2 := B.fou2 hk
          rw [br_eq hk, br_pos (by omega), br_pos (by omega), hst hk, Bool.or_false]
          have hs : D.sy (p1, p2) x = (D.ou.getD (p1 * D.K + x).toNat 0 != D.ou'.getD (p2 * D.K + x).toNat 0) := by unfold Duo.sy; rw [hk]; rfl
          rw [← hs]
          cases hsy' : D.sy (p1, p2) x with
          | true =>
            rw [br_tt, if_pos rfl, show l_differ_back s.1 s.2 p1 p2 o _ = _ from back_eq W (e := ((p1, p2), w)) hm (by omega) _]
            dsimp only
            rw [br_pos (by
              show (w.length + 1) * 8 ≤ 140737488355328
              omega)]
          | false =>
            rw [br_ff, if_neg (by decide)]
            cases hkn : known L q with
            | true => rw [br_tt, if_pos rfl]; rfl
            | false =>
              rw [br_ff, br_pos hpl, br_eq' (by omega), hnew hkn, if_neg (by decide)]
              rfl
      cases h1 : D.sy (L.getD i pw0).1 x || D.st (D.nxt (L.getD i pw0).1 x) with
      | true =>
        rw [h1, if_pos rfl] at h
        cases h
        exact .now fun m => by rw [key, h1, if_pos rfl]
      | false =>
        rw [h1, if_neg (by decide)] at h
        rw [Bool.or_eq_false_iff] at h1
        cases h2 : known L (D.nxt (L.getD i pw0).1 x) with
        | true =>
          rw [h2, if_pos rfl] at h
          exact .step (fun m => by rw [key, h1.1, h1.2, h2, Bool.or_false, if_neg (by decide), if_pos rfl]) (search_run A B s K0 n i (x + 1) L o r h I W hi (by omega))
        | false =>
          rw [h2, if_neg (by decide)] at h
          refine .step (fun m => by rw [key, h1.1, h1.2, h2, Bool.or_false, if_neg (by decide), if_neg (by decide)]) ?_
          have ih := search_run A B s K0 n i (x + 1) _ _ r h (I.push F hi hx' h1.2 h2) (W.push hm h2 x) (by simp; omega) (by omega)
          rw [List.map_append, getD_snoc, if_pos hi] at ih
          exact ih
    · rw [if_neg c] at h
      have hrow : (L.map (·.1)).length = L.length := List.length_map _
      have key : ∀ m, (run_differ_search K0 (m + 1)).2 i D.K x D.k D.K O D.N D.nx D.ou D.k D.K O' D.M D.nx' D.ou' s.1 s.2 o (L.map (·.1)) 0 0 [] (L.getD i pw0).1.1 (L.getD i pw0).1.2 =
          (run_differ_search K0 m).1 ((i + 1 : Nat) : Int) D.k D.K O D.N D.nx D.ou D.k D.K O' D.M D.nx' D.ou' s.1 s.2 o (L.map (·.1)) 0 0 [] := by
        intro m
        show s_differ_search_13 _ _ _ _ _ _ _ _ _ _ _ _ _ _ _ _ _ _ _ _ _ _ _ _ _ _ _ = _
        unfold s_differ_search_13
        rw [br_neg c, wr _ (by omega) (by omega)]
        rfl
      refine .step key ?_
      by_cases h3 : i + 1 < L.length
      · rw [if_pos h3] at h
        refine .step (fun m => ?_) (search_run A B s K0 n (i + 1) 0 L o r h I W h3 (by omega))
        show s_differ_search_9 (run_differ_search K0 m).1 (run_differ_search K0 m).2 K0 _ _ _ _ _ _ _ _ _ _ _ _ _ _ _ _ _ _ _ _ = _
        unfold s_differ_search_9
        rw [hrow, br_eq' (by omega), br_pos (by omega), Int.toNat_natCast, rows_get]
        rfl
      · rw [if_neg h3] at h
        cases h
        refine .now fun m => ?_
        show s_differ_search_9 (run_differ_search K0 m).1 (run_differ_search K0 m).2 K0 _ _ _ _ _ _ _ _ _ _ _ _ _ _ _ _ _ _ _ _ = _
        unfold s_differ_search_9
        rw [hrow, br_eq (by omega)]

theorem ok_differ_search {R : Type} (a : Int) (a_1 : Int) (a_2 : Int) (a_3 : Int) (a_4 : List Int) (a_5 : List Int) (b : Int) (b_1 : Int) (b_2 : Int) (b_3 : Int) (b_4 : List Int) (b_5 : List Int) (start : Int) (start_1 : Int) (K0 : Bool → (List Int) → Option R) {r : R} (h : l_differ_search a a_1 a_2 a_3 a_4 a_5 b b_1 b_2 b_3 b_4 b_5 start start_1 K0 = some r) : ∃ fuel, e_differ_search (run_differ_search K0 fuel).1 (run_differ_search K0 fuel).2 K0 a a_1 a_2 a_3 a_4 a_5 b b_1 b_2 b_3 b_4 b_5 start start_1 = some r := by
  unfold l_differ_search at h
  rcases bi_some h with ⟨hs, h'⟩ | ⟨_, h'⟩
  · obtain ⟨h1, h2, rfl, rfl, h3, h4⟩ := of_decide_eq_true hs
    have A := checkR_fine.1 h1
    have B := checkR_fine.1 h2
    rw [← h']
    generalize hD : (⟨a, a_1, a_3, b_3, a_4, a_5, b_4, b_5⟩ : Duo) = D
    have F : D.Fine := by subst hD; exact ⟨⟨_, A⟩, ⟨_, B⟩⟩
    have hin : D.inn (start, start_1) := by subst hD; exact ⟨h3, h4⟩
    have go : D.st (start, start_1) = false → Reach (fun m => (run_differ_search K0 m).1 0 a a_1 a_2 a_3 a_4 a_5 a a_1 b_2 b_3 b_4 b_5 start start_1 (mput (.pr (.int .i64) (.int .i64)) (.pr (.pr (.int .i64) (.int .i64)) (.int .i64)) (start, start_1) ((0, 0), 0) ([] : List ((Int × Int) × ((Int × Int) × Int)))) [(start, start_1)] 0 0 ([] : List Int)) (K0 (searchS D (start, start_1)).1 (searchS D (start, start_1)).2) := fun hst => by
      have := search_run (D := D) (O := a_2) (O' := b_2) (by subst hD; exact A) (by subst hD; exact B) (start, start_1) K0 _ 0 0 _ _ _ (searchS_run F hin hst) (Inv.start hin hst) (Ways.start (start, start_1) ((0, 0), 0)) (by simp) (by omega)
      refine .step (fun m => ?_) this
      subst hD
      rw [show (run_differ_search K0 (m + 1)).1 = s_differ_search_9 (run_differ_search K0 m).1 (run_differ_search K0 m).2 K0 from rfl]
      unfold s_differ_search_9
      rw [br_eq' (by simp), br_pos (by simp)]
      rfl
    unfold e_differ_search
    rcases A.fk with hk | hk
    · have g1 := A.fou1 hk
      have g2 := B.fou1 hk
      have hs : D.st (start, start_1) = (a_5.getD start.toNat 0 != b_5.getD start_1.toNat 0) := by subst hD; unfold Duo.st; rw [hk]; rfl
      cases hst : D.st (start, start_1) with
      | true =>
        refine ⟨0, ?_⟩
        rw [br_eq hk, br_pos (by omega), br_pos (by omega), ← hs, hst, br_tt]
        unfold searchS
        rw [if_pos hst]
        try rfl
      | false =>
        obtain ⟨n, hn⟩ := (go hst).get
        refine ⟨n, ?_⟩
        rw [br_eq hk, br_pos (by omega), br_pos (by omega), ← hs, hst, br_ff]
        exact hn
    · have hst : D.st (start, start_1) = false := by subst hD; unfold Duo.st; rw [hk]; rfl
      obtain ⟨n, hn⟩ := (go hst).get
      refine ⟨n, ?_⟩
      rw [br_eq' (by omega)]
      exact hn
  · cases h'

theorem search_eq {R : Type} {D : Duo} {O O' : Int} (A : Fine D.k D.K O D.N D.nx D.ou) (B : Fine D.k D.K O' D.M D.nx' D.ou') {s : Int × Int} (hs : D.inn s) (K0 : Bool → List Int → Option R) :
    l_differ_search D.k D.K O D.N D.nx D.ou D.k D.K O' D.M D.nx' D.ou' s.1 s.2 K0 = K0 (searchS D s).1 (searchS D s).2 := by
  unfold l_differ_search
  rw [br_pos ⟨checkR_fine.2 A, checkR_fine.2 B, rfl, rfl, hs⟩]

/-- tutor/differ.Separate -/
def l_differ_Separate {R : Type} (a : Int) (a_1 : Int) (a_2 : Int) (a_3 : Int) (a_4 : List Int) (a_5 : List Int) (b : Int) (b_1 : Int) (b_2 : Int) (b_3 : Int) (b_4 : List Int) (b_5 : List Int) (K0 : Bool → Int → (List Int) → Option R) : Option R :=
  l_differ_fit a a_1 a_2 a_3 a_4 a_5 b b_1 b_2 b_3 b_4 b_5
   (fun r1 =>
    bi (r1 != 0)
     (K0 false r1 ([] : List Int))
     (l_differ_search a a_1 a_2 a_3 a_4 a_5 b b_1 b_2 b_3 b_4 b_5 0 0
      (fun r2 r3 =>
       K0 r2 0 r3)))

/-- The document's answer, for two machines. -/
def sepS (k K O N : Int) (nx ou : List Int) (k' K' O' N' : Int) (nx' ou' : List Int) : Bool × Int × List Int :=
  if fitS k K O N nx ou k' K' O' N' nx' ou' ≠ 0 then (false, fitS k K O N nx ou k' K' O' N' nx' ou', []) else
    ((searchS ⟨k, K, N, N', nx, ou, nx', ou'⟩ (0, 0)).1, 0, (searchS ⟨k, K, N, N', nx, ou, nx', ou'⟩ (0, 0)).2)

theorem fitS_zero {k K O N : Int} {nx ou : List Int} {k' K' O' N' : Int} {nx' ou' : List Int} (h1 : okL nx) (h2 : okL ou) (h3 : okL nx') (h4 : okL ou') :
    fitS k K O N nx ou k' K' O' N' nx' ou' = 0 ↔ Fine k K O N nx ou ∧ Fine k' K' O' N' nx' ou' ∧ k = k' ∧ K = K' ∧ O = O' := by
  unfold fitS
  rw [checkS_eq h1 h2, checkS_eq h3 h4, ← checkR_fine, ← checkR_fine]
  by_cases c1 : (checkR k K O N nx ou).2 = 0
  · rw [if_neg (by simpa using c1)]
    by_cases c2 : (checkR k' K' O' N' nx' ou').2 = 0
    · rw [if_neg (by simpa using c2)]
      by_cases c3 : k = k'
      · rw [if_neg (by simpa using c3)]
        by_cases c4 : K = K'
        · rw [if_neg (by simpa using c4)]
          by_cases c5 : O = O'
          · rw [if_neg (by simpa using c5)]
            exact ⟨fun _ => ⟨c1, c2, c3, c4, c5⟩, fun _ => rfl⟩
          · rw [if_pos c5]
            exact ⟨fun h => by simp at h, fun h => absurd h.2.2.2.2 c5⟩
        · rw [if_pos c4]
          exact ⟨fun h => by simp at h, fun h => absurd h.2.2.2.1 c4⟩
      · rw [if_pos c3]
        exact ⟨fun h => by simp at h, fun h => absurd h.2.2.1 c3⟩
    · rw [if_pos c2]
      exact ⟨fun h => absurd h c2, fun h => absurd h.2.1 c2⟩
  · rw [if_pos c1]
    exact ⟨fun h => absurd h c1, fun h => absurd h.1 c1⟩

theorem sep_eq {R : Type} {k K O N : Int} {nx ou : List Int} {k' K' O' N' : Int} {nx' ou' : List Int} (h1 : okL nx) (h2 : okL ou) (h3 : okL nx') (h4 : okL ou') (K0 : Bool → Int → List Int → Option R) :
    l_differ_Separate k K O N nx ou k' K' O' N' nx' ou' K0 = K0 (sepS k K O N nx ou k' K' O' N' nx' ou').1 (sepS k K O N nx ou k' K' O' N' nx' ou').2.1 (sepS k K O N nx ou k' K' O' N' nx' ou').2.2 := by
  unfold l_differ_Separate sepS
  rw [fit_eq h1 h2 h3 h4]
  try dsimp only
  by_cases hc : fitS k K O N nx ou k' K' O' N' nx' ou' = 0
  · rw [br_ne' hc, if_neg (by simpa using hc)]
    obtain ⟨A, B, rfl, rfl, rfl⟩ := (fitS_zero h1 h2 h3 h4).1 hc
    have := A.fN
    have := B.fN
    exact search_eq (D := ⟨k, K, N, N', nx, ou, nx', ou'⟩) (s := (0, 0)) A B ⟨by dsimp only; omega, by dsimp only; omega⟩ _
  · rw [br_ne hc, if_pos (by simpa using hc)]

theorem sepS_short {k K O N : Int} {nx ou : List Int} {k' K' O' N' : Int} {nx' ou' : List Int} (h1 : okL nx) (h2 : okL ou) (h3 : okL nx') (h4 : okL ou') : short (sepS k K O N nx ou k' K' O' N' nx' ou').2.2 := by
  unfold sepS
  by_cases hc : fitS k K O N nx ou k' K' O' N' nx' ou' = 0
  · rw [if_neg (by simpa using hc)]
    obtain ⟨A, B, rfl, rfl, rfl⟩ := (fitS_zero h1 h2 h3 h4).1 hc
    have := A.fN
    have := B.fN
    exact searchS_short (D := ⟨k, K, N, N', nx, ou, nx', ou'⟩) (s := (0, 0)) ⟨⟨_, A⟩, ⟨_, B⟩⟩ ⟨by dsimp only; omega, by dsimp only; omega⟩
  · rw [if_pos hc]
    exact (by decide : short ([] : List Int))
theorem sepS_len {k K O N : Int} {nx ou : List Int} {k' K' O' N' : Int} {nx' ou' : List Int} (h1 : okL nx) (h2 : okL ou) (h3 : okL nx') (h4 : okL ou') : (sepS k K O N nx ou k' K' O' N' nx' ou').2.2.length ≤ 1048576 := by
  unfold sepS
  by_cases hc : fitS k K O N nx ou k' K' O' N' nx' ou' = 0
  · rw [if_neg (by simpa using hc)]
    obtain ⟨A, B, rfl, rfl, rfl⟩ := (fitS_zero h1 h2 h3 h4).1 hc
    have a1 := A.fN
    have b1 := B.fN
    have := searchS_len (D := ⟨k, K, N, N', nx, ou, nx', ou'⟩) (s := (0, 0)) ⟨⟨_, A⟩, ⟨_, B⟩⟩ ⟨by dsimp only; omega, by dsimp only; omega⟩
    have m := mul_most a1 b1
    dsimp only at this ⊢
    omega
  · rw [if_pos hc]
    exact Nat.zero_le _

/-- tutor/differ.Apart -/
def l_differ_Apart {R : Type} (m : Int) (m_1 : Int) (m_2 : Int) (m_3 : Int) (m_4 : List Int) (m_5 : List Int) (s : Int) (t : Int) (K0 : Bool → Int → (List Int) → Option R) : Option R :=
  l_machine_Check m m_1 m_2 m_3 m_4 m_5
   (fun r1 r2 =>
    bi (r2 != 0)
     (K0 false r2 ([] : List Int))
     (bi (decide (s < 0))
      (K0 false 32 ([] : List Int))
      (bi (decide (t < 0))
       (K0 false 32 ([] : List Int))
       (bi (decide (s ≥ m_3))
        (K0 false 32 ([] : List Int))
        (bi (decide (t ≥ m_3))
         (K0 false 32 ([] : List Int))
         (l_differ_search m m_1 m_2 m_3 m_4 m_5 m m_1 m_2 m_3 m_4 m_5 s t
          (fun r3 r4 =>
           K0 r3 0 r4)))))))

/-- The document's answer, for two states. -/
def apartS (k K O N : Int) (nx ou : List Int) (s t : Int) : Bool × Int × List Int :=
  if (checkR k K O N nx ou).2 ≠ 0 then (false, (checkR k K O N nx ou).2, []) else if (s < 0 ∨ s ≥ N) ∨ (t < 0 ∨ t ≥ N) then (false, 32, []) else
    ((searchS ⟨k, K, N, N, nx, ou, nx, ou⟩ (s, t)).1, 0, (searchS ⟨k, K, N, N, nx, ou, nx, ou⟩ (s, t)).2)

theorem dapart_eq {R : Type} {k K O N : Int} {nx ou : List Int} {s t : Int} (h1 : okL nx) (h2 : okL ou) (K0 : Bool → Int → List Int → Option R) :
    l_differ_Apart k K O N nx ou s t K0 = K0 (apartS k K O N nx ou s t).1 (apartS k K O N nx ou s t).2.1 (apartS k K O N nx ou s t).2.2 := by
  unfold l_differ_Apart apartS
  rw [check_eq _ _ _ _ _ _ h1.1 h2.1, checkS_eq h1 h2]
  try dsimp only
  by_cases hc : (checkR k K O N nx ou).2 = 0
  · rw [br_ne' hc, if_neg (by simpa using hc)]
    by_cases c1 : s < 0
    · rw [br_pos c1, if_pos (by omega)]
    rw [br_neg c1]
    by_cases c2 : t < 0
    · rw [br_pos c2, if_pos (by omega)]
    rw [br_neg c2]
    by_cases c3 : s ≥ N
    · rw [br_pos c3, if_pos (by omega)]
    rw [br_neg c3]
    by_cases c4 : t ≥ N
    · rw [br_pos c4, if_pos (by omega)]
    rw [br_neg c4, if_neg (by omega)]
    have A := checkR_fine.1 hc
    exact search_eq (D := ⟨k, K, N, N, nx, ou, nx, ou⟩) (s := (s, t)) A A ⟨by dsimp only; omega, by dsimp only; omega⟩ _
  · rw [br_ne hc, if_pos (by simpa using hc)]

/-- tutor/differ.Equal -/
def l_differ_Equal {R : Type} (a : Int) (a_1 : Int) (a_2 : Int) (a_3 : Int) (a_4 : List Int) (a_5 : List Int) (b : Int) (b_1 : Int) (b_2 : Int) (b_3 : Int) (b_4 : List Int) (b_5 : List Int) (K0 : Bool → Int → Option R) : Option R :=
  l_differ_Separate a a_1 a_2 a_3 a_4 a_5 b b_1 b_2 b_3 b_4 b_5
   (fun r1 r2 r3 =>
    bi (r2 == 0)
     (K0 (!r1) r2)
     (K0 false r2))

theorem equal_eq {R : Type} {k K O N : Int} {nx ou : List Int} {k' K' O' N' : Int} {nx' ou' : List Int} (h1 : okL nx) (h2 : okL ou) (h3 : okL nx') (h4 : okL ou') (K0 : Bool → Int → Option R) :
    l_differ_Equal k K O N nx ou k' K' O' N' nx' ou' K0 = K0 (decide ((sepS k K O N nx ou k' K' O' N' nx' ou').2.1 = 0) && !(sepS k K O N nx ou k' K' O' N' nx' ou').1) (sepS k K O N nx ou k' K' O' N' nx' ou').2.1 := by
  unfold l_differ_Equal
  rw [sep_eq h1 h2 h3 h4]
  try dsimp only
  by_cases c : (sepS k K O N nx ou k' K' O' N' nx' ou').2.1 = 0
  · rw [br_eq c, decide_eq_true c, Bool.true_and]
  · rw [br_eq' c, decide_eq_false c, Bool.false_and]

/-- tutor/tutorlaw07.num -/
def l_tutorlaw07_num {R : Type} (e : Int) (K0 : Int → Option R) : Option R :=
  K0 e

/-- tutor/tutorref01.Same -/
def s_tutorref01_Same_4 {R : Type} (g14_4 : (List Int) → (List Int) → Int → Option R) (K0 : Bool → Option R) (a : List Int) (b : List Int) (i : Int) : Option R :=
  bi (decide (i < (a.length : Int)))
   (bi (decide (0 ≤ i ∧ i < ((a.length : Nat) : Int)))
    (bi (decide (0 ≤ i ∧ i < ((b.length : Nat) : Int)))
     (bi ((a.getD i.toNat 0) != (b.getD i.toNat 0))
      (K0 false)
      (g14_4 a b (IntKind.i64.wrap (i + 1))))
     none)
    none)
   (K0 true)

/-- tutor/tutorref01.Same -/
def e_tutorref01_Same {R : Type} (g14_4 : (List Int) → (List Int) → Int → Option R) (K0 : Bool → Option R) (a : List Int) (b : List Int) : Option R :=
  bi ((a.length : Int) != (b.length : Int))
   (K0 false)
   (g14_4 a b 0)

def run_tutorref01_Same {R : Type} (K0 : Bool → Option R) : Nat → (List Int) → (List Int) → Int → Option R
  | 0 => fun _ _ _ => none
  | n + 1 => s_tutorref01_Same_4 (run_tutorref01_Same K0 n) K0

def l_tutorref01_Same {R : Type} (a : List Int) (b : List Int) (K0 : Bool → Option R) : Option R := bi (decide (short a)) (K0 (decide (a = b))) none

theorem findP_zip {a b : List Int} (hl : a.length = b.length) : findP (fun i => a.getD i 0 != b.getD i 0) (List.range a.length) = none ↔ a = b := by
  rw [findP_none]
  constructor
  · intro h
    refine List.ext_getElem hl fun i h1 h2 => ?_
    have := h i (by simpa using h1)
    rw [getD_of 0 h1, getD_of 0 h2] at this
    simpa using this
  · rintro rfl i _
    simp

theorem ok_tutorref01_Same {R : Type} (a : List Int) (b : List Int) (K0 : Bool → Option R) {r : R} (h : l_tutorref01_Same a b K0 = some r) : ∃ fuel, e_tutorref01_Same (run_tutorref01_Same K0 fuel) K0 a b = some r := by
  unfold l_tutorref01_Same at h
  rcases bi_some h with ⟨hs, h⟩ | ⟨_, h⟩
  · have hs : a.length < 4611686018427387904 := of_decide_eq_true hs
    refine ⟨a.length + 1, ?_⟩
    rw [← h]
    unfold e_tutorref01_Same
    by_cases hl : a.length = b.length
    · rw [br_ne' (by omega)]
      have key := scan_all (F := fun m i => run_tutorref01_Same K0 m a b (i : Int)) (fun i => a.getD i 0 != b.getD i 0) (l := List.range a.length) (A := fun i => K0 false) (B := K0 true)
        (fun m => by
          show s_tutorref01_Same_4 _ _ _ _ _ = _
          unfold s_tutorref01_Same_4
          rw [List.length_range, br_neg (by omega)])
        (fun m i hi => by
          rw [List.length_range] at hi
          show s_tutorref01_Same_4 _ _ _ _ _ = _
          unfold s_tutorref01_Same_4
          rw [br_pos (by omega), br_pos (by omega), br_pos (by omega), br_if, Int.toNat_natCast, wr _ (by omega) (by omega), List.getElem_range]
          rfl)
      rw [List.length_range] at key
      refine key.trans ?_
      by_cases e : a = b
      · rw [(findP_zip hl).2 e]
        simp [e]
      · have : findP (fun i => a.getD i 0 != b.getD i 0) (List.range a.length) ≠ none := fun h => e ((findP_zip hl).1 h)
        cases hf : findP (fun i => a.getD i 0 != b.getD i 0) (List.range a.length) with
        | none => exact absurd hf this
        | some j => simp [e]
    · rw [br_ne (by omega)]
      have e : a ≠ b := fun e => hl (by rw [e])
      simp [e]
  · cases h

theorem same_eq {R : Type} {a b : List Int} (h : short a) (K0 : Bool → Option R) : l_tutorref01_Same a b K0 = K0 (decide (a = b)) := by
  unfold l_tutorref01_Same
  rw [br_pos h]

/-- tutor/tutorlaw07.live -/
def l_tutorlaw07_live {R : Type}  (K0 : Bool → Option R) : Option R :=
  l_differ_Separate 1 1 2 2 [1, 0] [0, 1] 1 1 2 3 [1, 2, 0] [0, 1, 1]
   (fun r1 r2 r3 =>
    l_differ_Apart 1 1 2 2 [1, 0] [0, 1] 0 1
     (fun r4 r5 r6 =>
      l_differ_Equal 1 1 2 2 [1, 0] [0, 1] 1 1 2 2 [1, 0] [0, 1]
       (fun r7 r8 =>
        l_tutorlaw07_num r2
         (fun r9 =>
          l_tutorlaw07_num r5
           (fun r10 =>
            l_tutorlaw07_num r8
             (fun r11 =>
              bi ((IntKind.i64.wrap ((IntKind.i64.wrap (r9 + r10)) + r11)) == 0)
               (bi r1
                (l_tutorref01_Same r3 [0, 0]
                 (fun r12 =>
                  bi r12
                   (bi r4
                    (bi ((r6.length : Int) == 0)
                     (K0 r7)
                     (K0 false))
                    (K0 false))
                   (K0 false)))
                (K0 false))
               (K0 false)))))))

theorem live07 {R : Type} (K0 : Bool → Option R) : l_tutorlaw07_live K0 = K0 true := by
  have e1 : sepS 1 1 2 2 [1, 0] [0, 1] 1 1 2 3 [1, 2, 0] [0, 1, 1] = (true, 0, [0, 0]) := by decide +kernel
  have e2 : apartS 1 1 2 2 [1, 0] [0, 1] 0 1 = (true, 0, []) := by decide +kernel
  have e3 : sepS 1 1 2 2 [1, 0] [0, 1] 1 1 2 2 [1, 0] [0, 1] = (false, 0, []) := by decide +kernel
  unfold l_tutorlaw07_live
  rw [sep_eq (by decide) (by decide) (by decide) (by decide), e1]
  try dsimp only
  rw [dapart_eq (by decide) (by decide), e2]
  try dsimp only
  unfold l_differ_Equal
  rw [sep_eq (by decide) (by decide) (by decide) (by decide), e3]
  try dsimp only
  rw [br_eq rfl]
  try dsimp only [l_tutorlaw07_num]
  rw [br_eq (by decide), br_tt, same_eq (by decide)]
  try dsimp only
  rw [br_pos rfl, br_tt]
  rfl

/-- cmp.isNaN[int] -/
def l_cmp_isNaN_int {R : Type} (x : Int) (K0 : Bool → Option R) : Option R :=
  K0 (x != x)

/-- cmp.Compare[int] -/
def l_cmp_Compare_int {R : Type} (x : Int) (y : Int) (K0 : Int → Option R) : Option R :=
  l_cmp_isNaN_int x
   (fun r1 =>
    l_cmp_isNaN_int y
     (fun r2 =>
      bi r1
       (bi r2
        (K0 0)
        (K0 (-1)))
       (bi r2
        (K0 1)
        (bi (decide (x < y))
         (K0 (-1))
         (bi (decide (x > y))
          (K0 1)
          (K0 0))))))

theorem cmp_eq {R : Type} (x y : Int) (K0 : Int → Option R) : l_cmp_Compare_int x y K0 = K0 (cmpI x y) := by
  unfold l_cmp_Compare_int l_cmp_isNaN_int cmpI
  dsimp only
  rw [br_ne' rfl, br_ne' rfl]
  by_cases h1 : x < y
  · rw [br_pos h1, if_pos h1]
  · by_cases h2 : x > y
    · rw [br_neg h1, br_pos h2, if_neg h1, if_pos h2]
    · rw [br_neg h1, br_neg h2, if_neg h1, if_neg h2]

/-- slices.Compare[[]int,int] -/
def s_slices_Compare_int_int_2 {R : Type} (g53_2 : (List Int) → (List Int) → (List Int) → Int → Int → Option R) (K0 : Int → Option R) (s1 : List Int) (s2 : List Int) (x9 : List Int) (x10 : Int) (x11 : Int) : Option R :=
  bi (decide (x11 < x10))
   (bi (decide (0 ≤ x11 ∧ x11 < ((x9.length : Nat) : Int)))
    (bi (decide (x11 ≥ (s2.length : Int)))
     (K0 1)
     (bi (decide (0 ≤ x11 ∧ x11 < ((s2.length : Nat) : Int)))
      (l_cmp_Compare_int (x9.getD x11.toNat 0) (s2.getD x11.toNat 0)
       (fun r1 =>
        bi (r1 != 0)
         (K0 r1)
         (g53_2 s1 s2 x9 x10 (IntKind.i64.wrap (x11 + 1)))))
      none))
    none)
   (bi (decide ((s1.length : Int) < (s2.length : Int)))
    (K0 (-1))
    (K0 0))

/-- slices.Compare[[]int,int] -/
def e_slices_Compare_int_int {R : Type} (g53_2 : (List Int) → (List Int) → (List Int) → Int → Int → Option R) (K0 : Int → Option R) (s1 : List Int) (s2 : List Int) : Option R :=
  g53_2 s1 s2 s1 (s1.length : Int) 0

def run_slices_Compare_int_int {R : Type} (K0 : Int → Option R) : Nat → (List Int) → (List Int) → (List Int) → Int → Int → Option R
  | 0 => fun _ _ _ _ _ => none
  | n + 1 => s_slices_Compare_int_int_2 (run_slices_Compare_int_int K0 n) K0

def l_slices_Compare_int_int {R : Type} (s1 : List Int) (s2 : List Int) (K0 : Int → Option R) : Option R := bi (decide (short s1)) (K0 (lexS s1 s2)) none

theorem lexS_step {s1 s2 : List Int} {i : Nat} (h1 : i < s1.length) (h2 : i < s2.length) : lexS (s1.drop i) (s2.drop i) = if cmpI s1[i] s2[i] ≠ 0 then cmpI s1[i] s2[i] else lexS (s1.drop (i + 1)) (s2.drop (i + 1)) := by
  rw [List.drop_eq_getElem_cons h1, List.drop_eq_getElem_cons h2]
  by_cases c1 : s1[i] < s2[i]
  · have e : cmpI s1[i] s2[i] = -1 := by unfold cmpI; rw [if_pos c1]
    rw [e]
    simp [lexS, c1]
  · by_cases c2 : s1[i] > s2[i]
    · have e : cmpI s1[i] s2[i] = 1 := by unfold cmpI; rw [if_neg c1, if_pos c2]
      rw [e]
      simp [lexS, c1, c2]
    · have e : cmpI s1[i] s2[i] = 0 := by unfold cmpI; rw [if_neg c1, if_neg c2]
      rw [e]
      simp [lexS, c1, c2]

theorem ok_slices_Compare_int_int {R : Type} (s1 : List Int) (s2 : List Int) (K0 : Int → Option R) {r : R} (h : l_slices_Compare_int_int s1 s2 K0 = some r) : ∃ fuel, e_slices_Compare_int_int (run_slices_Compare_int_int K0 fuel) K0 s1 s2 = some r := by
  unfold l_slices_Compare_int_int at h
  rcases bi_some h with ⟨hs, h⟩ | ⟨_, h⟩
  · have hs : s1.length < 4611686018427387904 := of_decide_eq_true hs
    refine ⟨s1.length + 1, ?_⟩
    rw [← h]
    have key : ∀ (d i : Nat), i + d = s1.length → run_slices_Compare_int_int K0 (d + 1) s1 s2 s1 (s1.length : Int) (i : Int) = K0 (lexS (s1.drop i) (s2.drop i)) := by
      intro d
      induction d with
      | zero =>
        intro i hi
        show s_slices_Compare_int_int_2 _ _ _ _ _ _ _ = _
        unfold s_slices_Compare_int_int_2
        rw [br_neg (by omega), List.drop_eq_nil_of_le (by omega)]
        by_cases h2 : i < s2.length
        · rw [br_pos (by omega), List.drop_eq_getElem_cons h2]
          rfl
        · rw [br_neg (by omega), List.drop_eq_nil_of_le (by omega)]
          rfl
      | succ d ih =>
        intro i hi
        have h1 : i < s1.length := by omega
        show s_slices_Compare_int_int_2 _ _ _ _ _ _ _ = _
        unfold s_slices_Compare_int_int_2
        rw [br_pos (by omega), br_pos (by omega)]
        by_cases h2 : i < s2.length
        · rw [br_neg (by omega), br_pos (by omega), cmp_eq, Int.toNat_natCast, getD_of 0 h1, getD_of 0 h2, lexS_step h1 h2]
          by_cases hc : cmpI s1[i] s2[i] = 0
          · rw [br_ne' hc, if_neg (by omega), wr _ (by omega) (by omega)]
            exact ih (i + 1) (by omega)
          · rw [br_ne hc, if_pos hc]
        · rw [br_pos (by omega), List.drop_eq_getElem_cons h1, List.drop_eq_nil_of_le (show s2.length ≤ i by omega)]
          rfl
    exact key s1.length 0 (by omega)
  · cases h

/-- tutor/word.Compare -/
def l_word_Compare {R : Type} (a : List Int) (b : List Int) (K0 : Int → Option R) : Option R :=
  l_cmp_Compare_int (a.length : Int) (b.length : Int)
   (fun r1 =>
    bi (r1 != 0)
     (K0 r1)
     (l_slices_Compare_int_int a b
      (fun r2 =>
       K0 r2)))

theorem compare_eq {R : Type} {a : List Int} (ha : short a) (b : List Int) (K0 : Int → Option R) : l_word_Compare a b K0 = K0 (compareS a b) := by
  unfold l_word_Compare compareS
  rw [cmp_eq]
  unfold cmpI
  by_cases h1 : a.length < b.length
  · rw [if_pos (by omega), if_pos h1, br_ne (by omega)]
  · by_cases h2 : a.length > b.length
    · rw [if_neg (by omega), if_pos (by omega), if_neg h1, if_pos h2, br_ne (by omega)]
    · rw [if_neg (by omega), if_neg (by omega), if_neg h1, if_neg h2, br_ne' rfl]
      unfold l_slices_Compare_int_int
      rw [br_pos ha]

/-- tutor/differ.Pairs$1 -/
def l_differ_Pairs_1 {R : Type} (v : List Int) (o1 : List Int) (K0 : Bool → (List Int) → Option R) : Option R :=
  l_word_Compare v o1
   (fun r1 =>
    K0 (r1 == 0) o1)

/-- slices.IndexFunc[[][]int,[]int] -/
def s_slices_IndexFunc_int_int_f38_2 {R : Type} (g51_2 : (List (List Int)) → Int → Int → (List Int) → Option R) (K0 : Int → (List Int) → Option R) (s : List (List Int)) (x7 : Int) (x8 : Int) (o1 : List Int) : Option R :=
  bi (decide (x8 < x7))
   (bi (decide (0 ≤ x8 ∧ x8 < ((s.length : Nat) : Int)))
    (l_differ_Pairs_1 (s.getD x8.toNat []) o1
     (fun r1 r2 =>
      bi r1
       (K0 x8 r2)
       (g51_2 s x7 (IntKind.i64.wrap (x8 + 1)) r2)))
    none)
   (K0 (-1) o1)

/-- slices.IndexFunc[[][]int,[]int] -/
def e_slices_IndexFunc_int_int_f38 {R : Type} (g51_2 : (List (List Int)) → Int → Int → (List Int) → Option R) (K0 : Int → (List Int) → Option R) (s : List (List Int)) (o1 : List Int) : Option R :=
  g51_2 s (s.length : Int) 0 o1

def run_slices_IndexFunc_int_int_f38 {R : Type} (K0 : Int → (List Int) → Option R) : Nat → (List (List Int)) → Int → Int → (List Int) → Option R
  | 0 => fun _ _ _ _ => none
  | n + 1 => s_slices_IndexFunc_int_int_f38_2 (run_slices_IndexFunc_int_int_f38 K0 n) K0

def shortQ (a : List (List Int)) : Prop := short a ∧ ∀ x ∈ a, short x
instance (a : List (List Int)) : Decidable (shortQ a) := by unfold shortQ; infer_instance
def eqW (w v : List Int) : Bool := decide (v = w)

def l_slices_IndexFunc_int_int_f38 {R : Type} (s : List (List Int)) (o1 : List Int) (K0 : Int → (List Int) → Option R) : Option R :=
  bi (decide (shortQ s)) (match findP (eqW o1) s with | some i => K0 (i : Int) o1 | none => K0 (-1) o1) none

theorem ok_slices_IndexFunc_int_int_f38 {R : Type} (s : List (List Int)) (o1 : List Int) (K0 : Int → (List Int) → Option R) {r : R} (h : l_slices_IndexFunc_int_int_f38 s o1 K0 = some r) : ∃ fuel, e_slices_IndexFunc_int_int_f38 (run_slices_IndexFunc_int_int_f38 K0 fuel) K0 s o1 = some r := by
  unfold l_slices_IndexFunc_int_int_f38 at h
  rcases bi_some h with ⟨hs, h⟩ | ⟨_, h⟩
  · have hs : shortQ s := of_decide_eq_true hs
    have hl : s.length < 4611686018427387904 := hs.1
    refine ⟨s.length + 1, ?_⟩
    rw [← h]
    unfold e_slices_IndexFunc_int_int_f38
    exact scan_all (F := fun m i => run_slices_IndexFunc_int_int_f38 K0 m s (s.length : Int) (i : Int) o1) (eqW o1) (l := s) (A := fun i => K0 (i : Int) o1) (B := K0 (-1) o1)
      (fun m => by
        dsimp only [run_slices_IndexFunc_int_int_f38]
        unfold s_slices_IndexFunc_int_int_f38_2
        rw [br_neg (by omega)])
      (fun m i hi => by
        dsimp only [run_slices_IndexFunc_int_int_f38]
        unfold s_slices_IndexFunc_int_int_f38_2 l_differ_Pairs_1
        rw [br_pos (by omega), br_pos (by omega), Int.toNat_natCast, getD_of [] hi, compare_eq (hs.2 _ (List.getElem_mem hi)), wr _ (by omega) (by omega)]
        try dsimp only
        unfold eqW
        by_cases c : s[i] = o1
        · rw [br_eq ((compareS_zero _ _).2 c), decide_eq_true c, if_pos rfl]
        · rw [br_eq' (fun h => c ((compareS_zero _ _).1 h)), decide_eq_false c, if_neg (by decide)]
          rfl)
  · cases h

theorem findP_mem {s : List (List Int)} {w : List Int} : (!decide (findP (eqW w) s = none)) = decide (w ∈ s) := by
  rw [Bool.eq_iff_iff, Bool.not_eq_true', decide_eq_false_iff_not, decide_eq_true_iff, findP_none]
  unfold eqW
  constructor
  · intro h
    refine Classical.byContradiction fun hc => h fun x hx => decide_eq_false fun e => hc ?_
    rw [← e]
    exact hx
  · intro h hc
    have := hc w h
    simp at this

/-- slices.ContainsFunc[[][]int,[]int] -/
def l_slices_ContainsFunc_int_int_f38 {R : Type} (s : List (List Int)) (o1 : List Int) (K0 : Bool → (List Int) → Option R) : Option R :=
  l_slices_IndexFunc_int_int_f38 s o1
   (fun r1 r2 =>
    K0 (decide (r1 ≥ 0)) r2)

theorem containsW_eq {R : Type} {s : List (List Int)} (h : shortQ s) (o1 : List Int) (K0 : Bool → List Int → Option R) : l_slices_ContainsFunc_int_int_f38 s o1 K0 = K0 (decide (o1 ∈ s)) o1 := by
  unfold l_slices_ContainsFunc_int_int_f38 l_slices_IndexFunc_int_int_f38
  rw [br_pos h, ← findP_mem]
  cases hf : findP (eqW o1) s with
  | none => rfl
  | some i =>
    have e1 : decide ((i : Int) ≥ 0) = true := decide_eq_true (by omega)
    simp only [e1]
    rfl

/-- tutor/differ.Pairs -/
def s_differ_Pairs_5 {R : Type} (g23_5 : Int → Int → Int → Int → Int → Int → (List Int) → (List Int) → (List (List Int)) → Option R) (g23_8 : Int → Int → Int → Int → Int → Int → Int → Int → (List Int) → (List Int) → (List (List Int)) → Option R) (K0 : Int → (List (List Int)) → Option R) (x19 : Int) (x20 : Int) (o0 : Int) (o0_1 : Int) (o0_2 : Int) (o0_3 : Int) (o0_4 : List Int) (o0_5 : List Int) (o1 : List (List Int)) : Option R :=
  bi (decide (x20 < x19))
   (g23_8 x20 (IntKind.i64.wrap (x20 + 1)) x19 x20 o0 o0_1 o0_2 o0_3 o0_4 o0_5 o1)
   (K0 0 o1)

/-- tutor/differ.Pairs -/
def s_differ_Pairs_8 {R : Type} (g23_5 : Int → Int → Int → Int → Int → Int → (List Int) → (List Int) → (List (List Int)) → Option R) (g23_8 : Int → Int → Int → Int → Int → Int → Int → Int → (List Int) → (List Int) → (List (List Int)) → Option R) (K0 : Int → (List (List Int)) → Option R) (s : Int) (t : Int) (x19 : Int) (x20 : Int) (o0 : Int) (o0_1 : Int) (o0_2 : Int) (o0_3 : Int) (o0_4 : List Int) (o0_5 : List Int) (o1 : List (List Int)) : Option R :=
  bi (decide (t < o0_3))
   (l_differ_search o0 o0_1 o0_2 o0_3 o0_4 o0_5 o0 o0_1 o0_2 o0_3 o0_4 o0_5 s t
    (fun r3 r4 =>
     bi r3
      (l_slices_ContainsFunc_int_int_f38 o1 r4
       (fun r5 r6 =>
        bi (!r5)
         (bi (decide ((o1.length + [r6].length) * 24 ≤ lim))
          (g23_8 s (IntKind.i64.wrap (t + 1)) x19 x20 o0 o0_1 o0_2 o0_3 o0_4 o0_5 (o1 ++ [r6]))
          none)
         (g23_8 s (IntKind.i64.wrap (t + 1)) x19 x20 o0 o0_1 o0_2 o0_3 o0_4 o0_5 o1)))
      (g23_8 s (IntKind.i64.wrap (t + 1)) x19 x20 o0 o0_1 o0_2 o0_3 o0_4 o0_5 o1)))
   (g23_5 x19 (IntKind.i64.wrap (x20 + 1)) o0 o0_1 o0_2 o0_3 o0_4 o0_5 o1)

/-- tutor/differ.Pairs -/
def e_differ_Pairs {R : Type} (g23_5 : Int → Int → Int → Int → Int → Int → (List Int) → (List Int) → (List (List Int)) → Option R) (g23_8 : Int → Int → Int → Int → Int → Int → Int → Int → (List Int) → (List Int) → (List (List Int)) → Option R) (K0 : Int → (List (List Int)) → Option R) (m : Int) (m_1 : Int) (m_2 : Int) (m_3 : Int) (m_4 : List Int) (m_5 : List Int) : Option R :=
  l_machine_Check m m_1 m_2 m_3 m_4 m_5
   (fun r1 r2 =>
    bi (r2 != 0)
     (K0 r2 ([] : List (List Int)))
     (g23_5 m_3 0 m m_1 m_2 m_3 m_4 m_5 ([] : List (List Int))))

def run_differ_Pairs {R : Type} (K0 : Int → (List (List Int)) → Option R) : Nat → (Int → Int → Int → Int → Int → Int → (List Int) → (List Int) → (List (List Int)) → Option R) × (Int → Int → Int → Int → Int → Int → Int → Int → (List Int) → (List Int) → (List (List Int)) → Option R)
  | 0 => (fun _ _ _ _ _ _ _ _ _ => none, fun _ _ _ _ _ _ _ _ _ _ _ => none)
  | n + 1 => (s_differ_Pairs_5 (run_differ_Pairs K0 n).1 (run_differ_Pairs K0 n).2 K0, s_differ_Pairs_8 (run_differ_Pairs K0 n).1 (run_differ_Pairs K0 n).2 K0)

def pstep (D : Duo) (p : Int × Int) (o : List (List Int)) : List (List Int) :=
  if (searchS D p).1 = true then (if (searchS D p).2 ∈ o then o else o ++ [(searchS D p).2]) else o
def pin (D : Duo) (s : Nat) : Nat → Nat → List (List Int) → List (List Int)
  | 0, _, o => o
  | d + 1, t, o => pin D s d (t + 1) (pstep D ((s : Int), (t : Int)) o)
def pout (D : Duo) (N : Nat) : Nat → Nat → List (List Int) → List (List Int)
  | 0, _, o => o
  | d + 1, s, o => pout D N d (s + 1) (pin D s (N - (s + 1)) (s + 1) o)
/-- The words of all pairs. -/
def pairsS (k K O N : Int) (nx ou : List Int) : Int × List (List Int) :=
  if (checkR k K O N nx ou).2 ≠ 0 then ((checkR k K O N nx ou).2, []) else (0, pout ⟨k, K, N, N, nx, ou, nx, ou⟩ N.toNat N.toNat 0 [])

/-- What holds on the way. -/
structure Pr (n : Nat) (o : List (List Int)) : Prop where
  few : o.length ≤ n
  len : ∀ w ∈ o, w.length ≤ 1048576
theorem Pr.short {n : Nat} {o : List (List Int)} (P : Pr n o) (h : n ≤ 2097152) : shortQ o :=
  ⟨by have := P.few; show o.length < 4611686018427387904; omega, fun w hw => by have := P.len w hw; show w.length < 4611686018427387904; omega⟩
theorem Pr.up {n m : Nat} {o : List (List Int)} (P : Pr n o) (h : n ≤ m) : Pr m o := ⟨Nat.le_trans P.few h, P.len⟩

theorem search_most {D : Duo} (F : D.Fine) {p : Int × Int} (hp : D.inn p) : (searchS D p).2.length ≤ 1048576 := by
  have h1 := searchS_len F hp
  obtain ⟨_, A⟩ := F.a
  obtain ⟨_, B⟩ := F.b
  have := mul_most A.fN B.fN
  omega

theorem pstep_pr {D : Duo} (F : D.Fine) {p : Int × Int} (hp : D.inn p) {n : Nat} {o : List (List Int)} (P : Pr n o) : Pr (n + 1) (pstep D p o) := by
  unfold pstep
  split
  · split
    · exact P.up (by omega)
    · refine ⟨by have := P.few; rw [List.length_append, List.length_singleton]; omega, fun w hw => ?_⟩
      rcases List.mem_append.1 hw with hw | hw
      · exact P.len w hw
      · rw [List.mem_singleton] at hw
        subst hw
        exact search_most F hp
  · exact P.up (by omega)

theorem pin_pr {D : Duo} (F : D.Fine) {s : Nat} (hs : (s : Int) < D.N) : ∀ (d t n : Nat) (o : List (List Int)), ((t + d : Nat) : Int) ≤ D.M → Pr n o → Pr (n + d) (pin D s d t o)
  | 0, _, _, _, _, P => P
  | d + 1, t, n, o, ht, P => by
    have := pin_pr F hs d (t + 1) (n + 1) _ (by omega) (pstep_pr (p := ((s : Int), (t : Int))) F ⟨by dsimp only; omega, by dsimp only; omega⟩ P)
    exact this.up (by omega)

theorem pairs_in {R : Type} {k K O N : Int} {nx ou : List Int} (A : Fine k K O N nx ou) (K0 : Int → (List (List Int)) → Option R) {v : Option R} {s : Nat} (hs : (s : Int) < N) :
    ∀ (d t n : Nat) (o : List (List Int)), (t : Int) + d = N → n + d ≤ 2097152 → Pr n o → Reach (fun m => (run_differ_Pairs K0 m).1 N ((s + 1 : Nat) : Int) k K O N nx ou (pin ⟨k, K, N, N, nx, ou, nx, ou⟩ s d t o)) v →
    Reach (fun m => (run_differ_Pairs K0 m).2 s t N s k K O N nx ou o) v
  | 0, t, n, o, ht, _, P, h => by
    have hN := A.fN
    refine .step (fun m => ?_) h
    rw [show (run_differ_Pairs K0 (m + 1)).2 = s_differ_Pairs_8 (run_differ_Pairs K0 m).1 (run_differ_Pairs K0 m).2 K0 from rfl]
    unfold s_differ_Pairs_8
    rw [br_neg (by omega), wr _ (by omega) (by omega)]
    rfl
  | d + 1, t, n, o, ht, hn, P, h => by
    have hN := A.fN
    have F : (⟨k, K, N, N, nx, ou, nx, ou⟩ : Duo).Fine := ⟨⟨_, A⟩, ⟨_, A⟩⟩
    have hin : (⟨k, K, N, N, nx, ou, nx, ou⟩ : Duo).inn ((s : Int), (t : Int)) := ⟨by dsimp only; omega, by dsimp only; omega⟩
    have ih := pairs_in A K0 hs d (t + 1) (n + 1) (pstep ⟨k, K, N, N, nx, ou, nx, ou⟩ ((s : Int), (t : Int)) o) (by omega) (by omega) (pstep_pr F hin P) h
    have hf := P.few
    refine .step (fun m => ?_) ih
    rw [show (run_differ_Pairs K0 (m + 1)).2 = s_differ_Pairs_8 (run_differ_Pairs K0 m).1 (run_differ_Pairs K0 m).2 K0 from rfl]
    unfold s_differ_Pairs_8
    rw [br_pos (by omega), wr ((t : Int) + 1) (by omega) (by omega)]
    rw [show l_differ_search k K O N nx ou k K O N nx ou (s : Int) (t : Int) _ = _ from search_eq (D := ⟨k, K, N, N, nx, ou, nx, ou⟩) (s := ((s : Int), (t : Int))) A A hin _]
    try dsimp only
    unfold pstep
    cases (searchS ⟨k, K, N, N, nx, ou, nx, ou⟩ ((s : Int), (t : Int))).1 with
    | false =>
      rw [br_ff, if_neg (by decide)]
      rfl
    | true =>
      rw [br_tt, if_pos rfl, containsW_eq (P.short (by omega))]
      try dsimp only
      by_cases c : (searchS ⟨k, K, N, N, nx, ou, nx, ou⟩ ((s : Int), (t : Int))).2 ∈ o
      · rw [decide_eq_true c, show (!true) = false from rfl, br_ff, if_pos c]
        rfl
      · rw [decide_eq_false c, show (!false) = true from rfl, br_tt, if_neg c, br_pos (by
          show (o.length + 1) * 24 ≤ 140737488355328
          omega)]
        rfl

theorem pairs_out {R : Type} {k K O N : Int} {nx ou : List Int} (A : Fine k K O N nx ou) (K0 : Int → (List (List Int)) → Option R) :
    ∀ (d s : Nat) (o : List (List Int)), (s : Int) + d = N → Pr (s * 1024) o → Reach (fun m => (run_differ_Pairs K0 m).1 N s k K O N nx ou o) (K0 0 (pout ⟨k, K, N, N, nx, ou, nx, ou⟩ N.toNat d s o))
  | 0, s, o, hs, P => by
    refine .now fun m => ?_
    rw [show (run_differ_Pairs K0 (m + 1)).1 = s_differ_Pairs_5 (run_differ_Pairs K0 m).1 (run_differ_Pairs K0 m).2 K0 from rfl]
    unfold s_differ_Pairs_5
    rw [br_neg (by omega)]
    rfl
  | d + 1, s, o, hs, P => by
    have hN := A.fN
    have F : (⟨k, K, N, N, nx, ou, nx, ou⟩ : Duo).Fine := ⟨⟨_, A⟩, ⟨_, A⟩⟩
    have ih := pairs_out A K0 d (s + 1) (pin ⟨k, K, N, N, nx, ou, nx, ou⟩ s (N.toNat - (s + 1)) (s + 1) o) (by omega) ((pin_pr F (show (s : Int) < N by omega) _ (s + 1) _ o (show ((s + 1 + (N.toNat - (s + 1)) : Nat) : Int) ≤ N by omega) P).up (by omega))
    have := pairs_in A K0 (s := s) (by omega) (N.toNat - (s + 1)) (s + 1) (s * 1024) o (by omega) (by omega) P ih
    refine .step (fun m => ?_) this
    rw [show (run_differ_Pairs K0 (m + 1)).1 = s_differ_Pairs_5 (run_differ_Pairs K0 m).1 (run_differ_Pairs K0 m).2 K0 from rfl]
    unfold s_differ_Pairs_5
    rw [br_pos (by omega), wr _ (by omega) (by omega)]
    rfl

def l_differ_Pairs {R : Type} (m : Int) (m_1 : Int) (m_2 : Int) (m_3 : Int) (m_4 : List Int) (m_5 : List Int) (K0 : Int → (List (List Int)) → Option R) : Option R :=
  bi (decide (okL m_4 ∧ okL m_5)) (K0 (pairsS m m_1 m_2 m_3 m_4 m_5).1 (pairsS m m_1 m_2 m_3 m_4 m_5).2) none

theorem ok_differ_Pairs {R : Type} (m : Int) (m_1 : Int) (m_2 : Int) (m_3 : Int) (m_4 : List Int) (m_5 : List Int) (K0 : Int → (List (List Int)) → Option R) {r : R} (h : l_differ_Pairs m m_1 m_2 m_3 m_4 m_5 K0 = some r) :
    ∃ fuel, e_differ_Pairs (run_differ_Pairs K0 fuel).1 (run_differ_Pairs K0 fuel).2 K0 m m_1 m_2 m_3 m_4 m_5 = some r := by
  unfold l_differ_Pairs at h
  rcases bi_some h with ⟨hs, h'⟩ | ⟨_, h'⟩
  · obtain ⟨o1, o2⟩ := of_decide_eq_true hs
    rw [← h']
    unfold e_differ_Pairs pairsS
    by_cases c1 : (checkR m m_1 m_2 m_3 m_4 m_5).2 = 0
    · have A := checkR_fine.1 c1
      have hN := A.fN
      obtain ⟨n, hn⟩ := (pairs_out A K0 m_3.toNat 0 [] (by omega) ⟨by simp, fun w hw => by cases hw⟩).get
      refine ⟨n, ?_⟩
      rw [check_eq _ _ _ _ _ _ o1.1 o2.1, checkS_eq o1 o2]
      try dsimp only
      rw [br_ne' c1, if_neg (by simpa using c1)]
      exact hn
    · refine ⟨0, ?_⟩
      rw [check_eq _ _ _ _ _ _ o1.1 o2.1, checkS_eq o1 o2]
      try dsimp only
      rw [br_ne c1, if_pos (by simpa using c1)]
  · cases h'

theorem pairs_eq {R : Type} {k K O N : Int} {nx ou : List Int} (h1 : okL nx) (h2 : okL ou) (K0 : Int → (List (List Int)) → Option R) :
    l_differ_Pairs k K O N nx ou K0 = K0 (pairsS k K O N nx ou).1 (pairsS k K O N nx ou).2 := by
  unfold l_differ_Pairs
  rw [br_pos ⟨h1, h2⟩]

theorem pout_pr {D : Duo} (F : D.Fine) (e : D.M = D.N) : ∀ (d s : Nat) (o : List (List Int)), (s : Int) + d = D.N → Pr (s * 1024) o → Pr ((s + d) * 1024) (pout D D.N.toNat d s o)
  | 0, s, o, _, P => P
  | d + 1, s, o, hs, P => by
    obtain ⟨_, A⟩ := F.a
    have hN := A.fN
    have := pout_pr F e d (s + 1) _ (by omega) ((pin_pr F (s := s) (by omega) (D.N.toNat - (s + 1)) (s + 1) _ o (by omega) P).up (by omega))
    rw [show s + (d + 1) = s + 1 + d by omega]
    exact this
theorem pairsS_pr {k K O N : Int} {nx ou : List Int} : Pr 1048576 (pairsS k K O N nx ou).2 := by
  unfold pairsS
  split
  · exact ⟨Nat.zero_le _, fun w hw => by cases hw⟩
  · rename_i h
    have A : Fine k K O N nx ou := checkR_fine.1 (by omega)
    have hN := A.fN
    have := pout_pr (D := ⟨k, K, N, N, nx, ou, nx, ou⟩) ⟨⟨_, A⟩, ⟨_, A⟩⟩ rfl N.toNat 0 [] (by dsimp only; omega) ⟨by simp, fun w hw => by cases hw⟩
    exact this.up (by omega)

/-- tutor/tutorref03.Check -/
def s_tutorref03_Check_15 {R : Type} (g29_15 : Int → Int → Int → Int → Int → (List Int) → (List Int) → Option R) (g29_20 : Int → Int → Int → Int → Int → (List Int) → (List Int) → Option R) (K0 : Int → Int → Option R) (i : Int) (o0 : Int) (o0_1 : Int) (o0_2 : Int) (o0_3 : Int) (o0_4 : List Int) (o0_5 : List Int) : Option R :=
  bi (decide (i < (o0_4.length : Int)))
   (bi (decide (0 ≤ i ∧ i < ((o0_4.length : Nat) : Int)))
    (bi (decide ((o0_4.getD i.toNat 0) < 0))
     (K0 i 32)
     (bi (decide (0 ≤ i ∧ i < ((o0_4.length : Nat) : Int)))
      (bi (decide ((o0_4.getD i.toNat 0) ≥ o0_3))
       (K0 i 32)
       (g29_15 (IntKind.i64.wrap (i + 1)) o0 o0_1 o0_2 o0_3 o0_4 o0_5))
      none))
    none)
   (g29_20 0 o0 o0_1 o0_2 o0_3 o0_4 o0_5)

/-- tutor/tutorref03.Check -/
def s_tutorref03_Check_20 {R : Type} (g29_15 : Int → Int → Int → Int → Int → (List Int) → (List Int) → Option R) (g29_20 : Int → Int → Int → Int → Int → (List Int) → (List Int) → Option R) (K0 : Int → Int → Option R) (i : Int) (o0 : Int) (o0_1 : Int) (o0_2 : Int) (o0_3 : Int) (o0_4 : List Int) (o0_5 : List Int) : Option R :=
  bi (decide (i < (o0_5.length : Int)))
   (bi (decide (0 ≤ i ∧ i < ((o0_5.length : Nat) : Int)))
    (bi (decide ((o0_5.getD i.toNat 0) < 0))
     (K0 i 33)
     (bi (decide (0 ≤ i ∧ i < ((o0_5.length : Nat) : Int)))
      (bi (decide ((o0_5.getD i.toNat 0) ≥ o0_2))
       (K0 i 33)
       (g29_20 (IntKind.i64.wrap (i + 1)) o0 o0_1 o0_2 o0_3 o0_4 o0_5))
      none))
    none)
   (K0 0 0)

/-- tutor/tutorref03.Check -/
def e_tutorref03_Check {R : Type} (g29_15 : Int → Int → Int → Int → Int → (List Int) → (List Int) → Option R) (g29_20 : Int → Int → Int → Int → Int → (List Int) → (List Int) → Option R) (K0 : Int → Int → Option R) (m : Int) (m_1 : Int) (m_2 : Int) (m_3 : Int) (m_4 : List Int) (m_5 : List Int) : Option R :=
  bi (m != 1)
   (bi (m != 2)
    (K0 0 30)
    (bi (decide (m_1 < 1))
     (K0 0 1)
     (bi (decide (m_1 > 64))
      (K0 0 1)
      (bi (m == 1)
       (bi (m_2 != 2)
        (K0 0 33)
        (bi (decide (m_2 < 1))
         (K0 0 33)
         (bi (decide (m_2 > 64))
          (K0 0 33)
          (bi (decide (m_3 < 1))
           (K0 0 3)
           (bi (decide (m_3 > 1024))
            (K0 0 3)
            (bi (m == 2)
             (bi ((m_4.length : Int) != (IntKind.i64.wrap (m_3 * m_1)))
              (K0 0 31)
              (bi ((m_5.length : Int) != (IntKind.i64.wrap (m_3 * m_1)))
               (K0 0 31)
               (g29_15 0 m m_1 m_2 m_3 m_4 m_5)))
             (bi ((m_4.length : Int) != (IntKind.i64.wrap (m_3 * m_1)))
              (K0 0 31)
              (bi ((m_5.length : Int) != m_3)
               (K0 0 31)
               (g29_15 0 m m_1 m_2 m_3 m_4 m_5)))))))))
       (bi (decide (m_2 < 1))
        (K0 0 33)
        (bi (decide (m_2 > 64))
         (K0 0 33)
         (bi (decide (m_3 < 1))
          (K0 0 3)
          (bi (decide (m_3 > 1024))
           (K0 0 3)
           (bi (m == 2)
            (bi ((m_4.length : Int) != (IntKind.i64.wrap (m_3 * m_1)))
             (K0 0 31)
             (bi ((m_5.length : Int) != (IntKind.i64.wrap (m_3 * m_1)))
              (K0 0 31)
              (g29_15 0 m m_1 m_2 m_3 m_4 m_5)))
            (bi ((m_4.length : Int) != (IntKind.i64.wrap (m_3 * m_1)))
             (K0 0 31)
             (bi ((m_5.length : Int) != m_3)
              (K0 0 31)
              (g29_15 0 m m_1 m_2 m_3 m_4 m_5))))))))))))
   (bi (decide (m_1 < 1))
    (K0 0 1)
    (bi (decide (m_1 > 64))
     (K0 0 1)
     (bi (m == 1)
      (bi (m_2 != 2)
       (K0 0 33)
       (bi (decide (m_2 < 1))
        (K0 0 33)
        (bi (decide (m_2 > 64))
         (K0 0 33)
         (bi (decide (m_3 < 1))
          (K0 0 3)
          (bi (decide (m_3 > 1024))
           (K0 0 3)
           (bi (m == 2)
            (bi ((m_4.length : Int) != (IntKind.i64.wrap (m_3 * m_1)))
             (K0 0 31)
             (bi ((m_5.length : Int) != (IntKind.i64.wrap (m_3 * m_1)))
              (K0 0 31)
              (g29_15 0 m m_1 m_2 m_3 m_4 m_5)))
            (bi ((m_4.length : Int) != (IntKind.i64.wrap (m_3 * m_1)))
             (K0 0 31)
             (bi ((m_5.length : Int) != m_3)
              (K0 0 31)
              (g29_15 0 m m_1 m_2 m_3 m_4 m_5)))))))))
      (bi (decide (m_2 < 1))
       (K0 0 33)
       (bi (decide (m_2 > 64))
        (K0 0 33)
        (bi (decide (m_3 < 1))
         (K0 0 3)
         (bi (decide (m_3 > 1024))
          (K0 0 3)
          (bi (m == 2)
           (bi ((m_4.length : Int) != (IntKind.i64.wrap (m_3 * m_1)))
            (K0 0 31)
            (bi ((m_5.length : Int) != (IntKind.i64.wrap (m_3 * m_1)))
             (K0 0 31)
             (g29_15 0 m m_1 m_2 m_3 m_4 m_5)))
           (bi ((m_4.length : Int) != (IntKind.i64.wrap (m_3 * m_1)))
            (K0 0 31)
            (bi ((m_5.length : Int) != m_3)
             (K0 0 31)
             (g29_15 0 m m_1 m_2 m_3 m_4 m_5)))))))))))

def run_tutorref03_Check {R : Type} (K0 : Int → Int → Option R) : Nat → (Int → Int → Int → Int → Int → (List Int) → (List Int) → Option R) × (Int → Int → Int → Int → Int → (List Int) → (List Int) → Option R)
  | 0 => (fun _ _ _ _ _ _ _ => none, fun _ _ _ _ _ _ _ => none)
  | n + 1 => (s_tutorref03_Check_15 (run_tutorref03_Check K0 n).1 (run_tutorref03_Check K0 n).2 K0, s_tutorref03_Check_20 (run_tutorref03_Check K0 n).1 (run_tutorref03_Check K0 n).2 K0)

def l_tutorref03_Check {R : Type} (k K O N : Int) (nx ou : List Int) (K0 : Int → Int → Option R) : Option R :=
  bi (decide (short nx ∧ short ou)) (K0 (checkR k K O N nx ou).1 (checkR k K O N nx ou).2) none

theorem checkR_head {R : Type} (g1 g2 : Int → Int → Int → Int → Int → List Int → List Int → Option R) (K0 : Int → Int → Option R) (k K O N : Int) (nx ou : List Int) :
    e_tutorref03_Check g1 g2 K0 k K O N nx ou = if headS k K O N nx ou = 0 then g1 0 k K O N nx ou else K0 0 (headS k K O N nx ou) := by
  have L0 : headS k K O N nx ou = 0 → g1 0 k K O N nx ou = if headS k K O N nx ou = 0 then g1 0 k K O N nx ou else K0 0 (headS k K O N nx ou) := fun h => by rw [if_pos h]
  have LK : ∀ c, headS k K O N nx ou = c → c ≠ 0 → K0 0 c = if headS k K O N nx ou = 0 then g1 0 k K O N nx ou else K0 0 (headS k K O N nx ou) := fun c h h0 => by rw [h, if_neg h0]
  unfold e_tutorref03_Check
  simp only [br_if, bne_iff_ne, beq_iff_eq, decide_eq_true_eq, ne_eq]
  by_cases hb : (1 ≤ N ∧ N ≤ 1024) ∧ 1 ≤ K ∧ K ≤ 64
  · have := mulK hb
    rw [wr (N * K) (by omega) (by omega)]
    repeat' (refine ite_l (fun _ => ?_) (fun _ => ?_))
    all_goals first
      | exact LK _ (by unfold headS; repeat' (refine ite_l (fun _ => ?_) (fun _ => ?_)); all_goals omega) (by omega)
      | exact L0 (by unfold headS; repeat' (refine ite_l (fun _ => ?_) (fun _ => ?_)); all_goals omega)
  · repeat' (refine ite_l (fun _ => ?_) (fun _ => ?_))
    all_goals first
      | exact LK _ (by unfold headS; repeat' (refine ite_l (fun _ => ?_) (fun _ => ?_)); all_goals omega) (by omega)
      | exact L0 (by unfold headS; repeat' (refine ite_l (fun _ => ?_) (fun _ => ?_)); all_goals omega)

theorem ok_tutorref03_Check {R : Type} (k K O N : Int) (nx ou : List Int) (K0 : Int → Int → Option R) {r : R} (h : l_tutorref03_Check k K O N nx ou K0 = some r) :
    ∃ fuel, e_tutorref03_Check (run_tutorref03_Check K0 fuel).1 (run_tutorref03_Check K0 fuel).2 K0 k K O N nx ou = some r := by
  unfold l_tutorref03_Check at h
  rcases bi_some h with ⟨hs, h⟩ | ⟨_, h⟩
  · obtain ⟨h1, h2⟩ : nx.length < 4611686018427387904 ∧ ou.length < 4611686018427387904 := of_decide_eq_true hs
    refine ⟨ou.length + 1 + (nx.length + 1), ?_⟩
    rw [← h, checkR_head]
    unfold checkR
    by_cases hh : headS k K O N nx ou = 0
    · rw [if_pos hh, if_neg (by simpa using hh)]
      have key2 : ∀ n, (run_tutorref03_Check K0 (n + (ou.length + 1))).2 0 k K O N nx ou = match findP (outside O) ou with | some i => K0 (i : Int) 33 | none => K0 0 0 := fun n =>
        scan_all (F := fun m i => (run_tutorref03_Check K0 (n + m)).2 (i : Int) k K O N nx ou) (outside O) (l := ou) (A := fun i => K0 i 33) (B := K0 0 0)
          (fun m => by
            show s_tutorref03_Check_20 (run_tutorref03_Check K0 (n + m)).1 (run_tutorref03_Check K0 (n + m)).2 K0 _ _ _ _ _ _ _ = _
            unfold s_tutorref03_Check_20
            rw [br_neg (by omega)])
          (fun m i hi => by
            show s_tutorref03_Check_20 (run_tutorref03_Check K0 (n + m)).1 (run_tutorref03_Check K0 (n + m)).2 K0 _ _ _ _ _ _ _ = _
            unfold s_tutorref03_Check_20
            rw [br_pos (by omega), br_pos (by omega), br_pos (p := 0 ≤ (i : Int) ∧ (i : Int) < ((ou.length : Nat) : Int)) (by omega), Int.toNat_natCast, getD_of 0 hi, wr _ (by omega) (by omega)]
            unfold outside
            cases decide (ou[i] < 0) <;> cases decide (ou[i] ≥ O) <;> rfl)
      have key1 := scan_all (F := fun m i => (run_tutorref03_Check K0 (ou.length + 1 + m)).1 (i : Int) k K O N nx ou) (outside N) (l := nx) (A := fun i => K0 i 32)
        (B := match findP (outside O) ou with | some i => K0 (i : Int) 33 | none => K0 0 0)
          (fun m => by
            show s_tutorref03_Check_15 (run_tutorref03_Check K0 (ou.length + 1 + m)).1 (run_tutorref03_Check K0 (ou.length + 1 + m)).2 K0 _ _ _ _ _ _ _ = _
            unfold s_tutorref03_Check_15
            rw [br_neg (by omega)]
            have := key2 m
            rwa [show m + (ou.length + 1) = ou.length + 1 + m by omega] at this)
          (fun m i hi => by
            show s_tutorref03_Check_15 (run_tutorref03_Check K0 (ou.length + 1 + m)).1 (run_tutorref03_Check K0 (ou.length + 1 + m)).2 K0 _ _ _ _ _ _ _ = _
            unfold s_tutorref03_Check_15
            rw [br_pos (by omega), br_pos (by omega), br_pos (p := 0 ≤ (i : Int) ∧ (i : Int) < ((nx.length : Nat) : Int)) (by omega), Int.toNat_natCast, getD_of 0 hi, wr _ (by omega) (by omega)]
            unfold outside
            cases decide (nx[i] < 0) <;> cases decide (nx[i] ≥ N) <;> rfl)
      refine key1.trans ?_
      cases findP (outside N) nx with
      | some i => rfl
      | none => cases findP (outside O) ou <;> rfl
    · rw [if_neg hh, if_pos (by simpa using hh)]
  · cases h

/-- tutor/tutorref07.now -/
def l_tutorref07_now {R : Type} (a : Int) (a_1 : Int) (a_2 : Int) (a_3 : Int) (a_4 : List Int) (a_5 : List Int) (b : Int) (b_1 : Int) (b_2 : Int) (b_3 : Int) (b_4 : List Int) (b_5 : List Int) (s : Int) (t : Int) (x : Int) (K0 : Bool → Option R) : Option R :=
  bi (a == 1)
   (bi (decide (x < 0))
    (bi (decide (0 ≤ s ∧ s < ((a_5.length : Nat) : Int)))
     (bi (decide (0 ≤ t ∧ t < ((b_5.length : Nat) : Int)))
      (K0 ((a_5.getD s.toNat 0) != (b_5.getD t.toNat 0)))
      none)
     none)
    (K0 false))
   (bi (decide (x ≥ 0))
    (bi (decide (0 ≤ (IntKind.i64.wrap ((IntKind.i64.wrap (s * a_1)) + x)) ∧ (IntKind.i64.wrap ((IntKind.i64.wrap (s * a_1)) + x)) < ((a_5.length : Nat) : Int)))
     (bi (decide (0 ≤ (IntKind.i64.wrap ((IntKind.i64.wrap (t * b_1)) + x)) ∧ (IntKind.i64.wrap ((IntKind.i64.wrap (t * b_1)) + x)) < ((b_5.length : Nat) : Int)))
      (K0 ((a_5.getD ((IntKind.i64.wrap ((IntKind.i64.wrap (s * a_1)) + x)).toNat) 0) != (b_5.getD ((IntKind.i64.wrap ((IntKind.i64.wrap (t * b_1)) + x)).toNat) 0)))
      none)
     none)
    (K0 false))

theorem now_st {R : Type} {D : Duo} {O O' : Int} (A : Fine D.k D.K O D.N D.nx D.ou) (B : Fine D.k D.K O' D.M D.nx' D.ou') {p : Int × Int} (hp : D.inn p) (K0 : Bool → Option R) :
    l_tutorref07_now D.k D.K O D.N D.nx D.ou D.k D.K O' D.M D.nx' D.ou' p.1 p.2 (-1) K0 = K0 (D.st p) := by
  unfold l_tutorref07_now Duo.st
  have h1 := hp.1
  have h2 := hp.2
  rcases A.fk with h | h
  · have := A.fou1 h
    have := B.fou1 h
    rw [br_eq h, br_pos (by omega), br_pos (by omega), br_pos (by omega), h]
    rfl
  · rw [br_eq' (by omega), br_neg (by omega), h]
    rfl
theorem now_sy {R : Type} {D : Duo} {O O' : Int} (A : Fine D.k D.K O D.N D.nx D.ou) (B : Fine D.k D.K O' D.M D.nx' D.ou') {p : Int × Int} (hp : D.inn p) {x : Int} (hx : 0 ≤ x ∧ x < D.K) (K0 : Bool → Option R) :
    l_tutorref07_now D.k D.K O D.N D.nx D.ou D.k D.K O' D.M D.nx' D.ou' p.1 p.2 x K0 = K0 (D.sy p x) := by
  unfold l_tutorref07_now Duo.sy
  have h1 := idx_in hp.1 hx
  have h2 := idx_in hp.2 hx
  have := mulK ⟨A.fN, A.fK⟩
  have := mulK ⟨B.fN, B.fK⟩
  rcases A.fk with h | h
  · rw [br_eq h, br_neg (by omega), h]
    rfl
  · have := A.fou2 h
    have := B.fou2 h
    rw [br_eq' (by omega), br_pos (by omega), wr (p.1 * D.K) (by omega) (by omega), wr (p.2 * D.K) (by omega) (by omega), wr (p.1 * D.K + x) (by omega) (by omega), wr (p.2 * D.K + x) (by omega) (by omega), br_pos (by omega), br_pos (by omega), h]
    rfl

/-- tutor/tutorref01.Join -/
def l_tutorref01_Join {R : Type} (a : List Int) (b : List Int) (K0 : (List Int) → Option R) : Option R :=
  bi (decide ((([] : List Int).length + a.length) * 8 ≤ lim))
   (bi (decide (((([] : List Int) ++ a).length + b.length) * 8 ≤ lim))
    (K0 ((([] : List Int) ++ a) ++ b))
    none)
   none

theorem join_eq {R : Type} {a b : List Int} (h : a.length + b.length ≤ 1000000000) (K0 : List Int → Option R) : l_tutorref01_Join a b K0 = K0 (a ++ b) := by
  unfold l_tutorref01_Join
  rw [br_pos (by simp [lim]; omega), br_pos (by simp [lim]; omega)]
  rfl

/-- tutor/tutorref07.search -/
def s_tutorref07_search_8 {R : Type} (g30_8 : Int → Int → Int → Int → Int → (List Int) → (List Int) → Int → Int → Int → Int → (List Int) → (List Int) → (List Bool) → (List (List Int)) → (List Int) → Option R) (g30_12 : Int → Int → Int → Int → Int → Int → Int → Int → (List Int) → (List Int) → Int → Int → Int → Int → (List Int) → (List Int) → (List Bool) → (List (List Int)) → (List Int) → Option R) (K0 : Bool → (List Int) → Option R) (i : Int) (o0 : Int) (o0_1 : Int) (o0_2 : Int) (o0_3 : Int) (o0_4 : List Int) (o0_5 : List Int) (o1 : Int) (o1_1 : Int) (o1_2 : Int) (o1_3 : Int) (o1_4 : List Int) (o1_5 : List Int) (o2 : List Bool) (o3 : List (List Int)) (o4 : List Int) : Option R :=
  bi (decide (i < (o3.length : Int)))
   (bi (decide (0 ≤ i ∧ i < ((o4.length : Nat) : Int)))
    (bi (decide (o1_3 = 0))
     none
     (bi (decide (0 ≤ i ∧ i < ((o4.length : Nat) : Int)))
      (bi (decide (o1_3 = 0))
       none
       (g30_12 i (IntKind.i64.wrap ((o4.getD i.toNat 0).tdiv o1_3)) ((o4.getD i.toNat 0).tmod o1_3) 0 o0 o0_1 o0_2 o0_3 o0_4 o0_5 o1 o1_1 o1_2 o1_3 o1_4 o1_5 o2 o3 o4))
      none))
    none)
   (K0 false ([] : List Int))

/-- tutor/tutorref07.search -/
def s_tutorref07_search_12 {R : Type} (g30_8 : Int → Int → Int → Int → Int → (List Int) → (List Int) → Int → Int → Int → Int → (List Int) → (List Int) → (List Bool) → (List (List Int)) → (List Int) → Option R) (g30_12 : Int → Int → Int → Int → Int → Int → Int → Int → (List Int) → (List Int) → Int → Int → Int → Int → (List Int) → (List Int) → (List Bool) → (List (List Int)) → (List Int) → Option R) (K0 : Bool → (List Int) → Option R) (i : Int) (s : Int) (t : Int) (x : Int) (o0 : Int) (o0_1 : Int) (o0_2 : Int) (o0_3 : Int) (o0_4 : List Int) (o0_5 : List Int) (o1 : Int) (o1_1 : Int) (o1_2 : Int) (o1_3 : Int) (o1_4 : List Int) (o1_5 : List Int) (o2 : List Bool) (o3 : List (List Int)) (o4 : List Int) : Option R :=
  bi (decide (x < o0_1))
   (bi (decide (0 ≤ i ∧ i < ((o3.length : Nat) : Int)))
    (l_tutorref01_Join (o3.getD i.toNat []) [x]
     (fun r2 =>
      bi (decide (0 ≤ (IntKind.i64.wrap ((IntKind.i64.wrap (s * o0_1)) + x)) ∧ (IntKind.i64.wrap ((IntKind.i64.wrap (s * o0_1)) + x)) < ((o0_4.length : Nat) : Int)))
       (bi (decide (0 ≤ (IntKind.i64.wrap ((IntKind.i64.wrap (t * o1_1)) + x)) ∧ (IntKind.i64.wrap ((IntKind.i64.wrap (t * o1_1)) + x)) < ((o1_4.length : Nat) : Int)))
        (l_tutorref07_now o0 o0_1 o0_2 o0_3 o0_4 o0_5 o1 o1_1 o1_2 o1_3 o1_4 o1_5 s t x
         (fun r3 =>
          bi r3
           (K0 true r2)
           (l_tutorref07_now o0 o0_1 o0_2 o0_3 o0_4 o0_5 o1 o1_1 o1_2 o1_3 o1_4 o1_5 (o0_4.getD ((IntKind.i64.wrap ((IntKind.i64.wrap (s * o0_1)) + x)).toNat) 0) (o1_4.getD ((IntKind.i64.wrap ((IntKind.i64.wrap (t * o1_1)) + x)).toNat) 0) (-1)
            (fun r4 =>
             bi r4
              (K0 true r2)
              (bi (decide (0 ≤ (IntKind.i64.wrap ((IntKind.i64.wrap ((o0_4.getD ((IntKind.i64.wrap ((IntKind.i64.wrap (s * o0_1)) + x)).toNat) 0) * o1_3)) + (o1_4.getD ((IntKind.i64.wrap ((IntKind.i64.wrap (t * o1_1)) + x)).toNat) 0))) ∧ (IntKind.i64.wrap ((IntKind.i64.wrap ((o0_4.getD ((IntKind.i64.wrap ((IntKind.i64.wrap (s * o0_1)) + x)).toNat) 0) * o1_3)) + (o1_4.getD ((IntKind.i64.wrap ((IntKind.i64.wrap (t * o1_1)) + x)).toNat) 0))) < ((o2.length : Nat) : Int)))
               (bi (!(o2.getD ((IntKind.i64.wrap ((IntKind.i64.wrap ((o0_4.getD ((IntKind.i64.wrap ((IntKind.i64.wrap (s * o0_1)) + x)).toNat) 0) * o1_3)) + (o1_4.getD ((IntKind.i64.wrap ((IntKind.i64.wrap (t * o1_1)) + x)).toNat) 0))).toNat) false))
                (bi (decide (0 ≤ (IntKind.i64.wrap ((IntKind.i64.wrap ((o0_4.getD ((IntKind.i64.wrap ((IntKind.i64.wrap (s * o0_1)) + x)).toNat) 0) * o1_3)) + (o1_4.getD ((IntKind.i64.wrap ((IntKind.i64.wrap (t * o1_1)) + x)).toNat) 0))) ∧ (IntKind.i64.wrap ((IntKind.i64.wrap ((o0_4.getD ((IntKind.i64.wrap ((IntKind.i64.wrap (s * o0_1)) + x)).toNat) 0) * o1_3)) + (o1_4.getD ((IntKind.i64.wrap ((IntKind.i64.wrap (t * o1_1)) + x)).toNat) 0))) < ((o2.length : Nat) : Int)))
                 (bi (decide ((o3.length + [r2].length) * 24 ≤ lim))
                  (bi (decide ((o4.length + [IntKind.i64.wrap ((IntKind.i64.wrap ((o0_4.getD ((IntKind.i64.wrap ((IntKind.i64.wrap (s * o0_1)) + x)).toNat) 0) * o1_3)) + (o1_4.getD ((IntKind.i64.wrap ((IntKind.i64.wrap (t * o1_1)) + x)).toNat) 0))].length) * 8 ≤ lim))
                   (g30_12 i s t (IntKind.i64.wrap (x + 1)) o0 o0_1 o0_2 o0_3 o0_4 o0_5 o1 o1_1 o1_2 o1_3 o1_4 o1_5 (o2.set ((IntKind.i64.wrap ((IntKind.i64.wrap ((o0_4.getD ((IntKind.i64.wrap ((IntKind.i64.wrap (s * o0_1)) + x)).toNat) 0) * o1_3)) + (o1_4.getD ((IntKind.i64.wrap ((IntKind.i64.wrap (t * o1_1)) + x)).toNat) 0))).toNat) true) (o3 ++ [r2]) (o4 ++ [IntKind.i64.wrap ((IntKind.i64.wrap ((o0_4.getD ((IntKind.i64.wrap ((IntKind.i64.wrap (s * o0_1)) + x)).toNat) 0) * o1_3)) + (o1_4.getD ((IntKind.i64.wrap ((IntKind.i64.wrap (t * o1_1)) + x)).toNat) 0))]))
                   none)
                  none)
                 none)
                (g30_12 i s t (IntKind.i64.wrap (x + 1)) o0 o0_1 o0_2 o0_3 o0_4 o0_5 o1 o1_1 o1_2 o1_3 o1_4 o1_5 o2 o3 o4))
               none)))))
        none)
       none))
    none)
   (g30_8 (IntKind.i64.wrap (i + 1)) o0 o0_1 o0_2 o0_3 o0_4 o0_5 o1 o1_1 o1_2 o1_3 o1_4 o1_5 o2 o3 o4)

/-- tutor/tutorref07.search -/
def e_tutorref07_search {R : Type} (g30_8 : Int → Int → Int → Int → Int → (List Int) → (List Int) → Int → Int → Int → Int → (List Int) → (List Int) → (List Bool) → (List (List Int)) → (List Int) → Option R) (g30_12 : Int → Int → Int → Int → Int → Int → Int → Int → (List Int) → (List Int) → Int → Int → Int → Int → (List Int) → (List Int) → (List Bool) → (List (List Int)) → (List Int) → Option R) (K0 : Bool → (List Int) → Option R) (a : Int) (a_1 : Int) (a_2 : Int) (a_3 : Int) (a_4 : List Int) (a_5 : List Int) (b : Int) (b_1 : Int) (b_2 : Int) (b_3 : Int) (b_4 : List Int) (b_5 : List Int) (s : Int) (t : Int) : Option R :=
  l_tutorref07_now a a_1 a_2 a_3 a_4 a_5 b b_1 b_2 b_3 b_4 b_5 s t (-1)
   (fun r1 =>
    bi r1
     (K0 true ([] : List Int))
     (bi (decide (0 ≤ (IntKind.i64.wrap (a_3 * b_3)) ∧ (IntKind.i64.wrap (a_3 * b_3)) ≤ (IntKind.i64.wrap (a_3 * b_3)) ∧ (IntKind.i64.wrap (a_3 * b_3)) ≤ 1073741824))
      (bi (decide (0 ≤ (IntKind.i64.wrap ((IntKind.i64.wrap (s * b_3)) + t)) ∧ (IntKind.i64.wrap ((IntKind.i64.wrap (s * b_3)) + t)) < (((List.replicate (IntKind.i64.wrap (a_3 * b_3)).toNat (false : Bool)).length : Nat) : Int)))
       (g30_8 0 a a_1 a_2 a_3 a_4 a_5 b b_1 b_2 b_3 b_4 b_5 ((List.replicate (IntKind.i64.wrap (a_3 * b_3)).toNat (false : Bool)).set ((IntKind.i64.wrap ((IntKind.i64.wrap (s * b_3)) + t)).toNat) true) [([] : List Int)] [IntKind.i64.wrap ((IntKind.i64.wrap (s * b_3)) + t)])
       none)
      none))

def run_tutorref07_search {R : Type} (K0 : Bool → (List Int) → Option R) : Nat → (Int → Int → Int → Int → Int → (List Int) → (List Int) → Int → Int → Int → Int → (List Int) → (List Int) → (List Bool) → (List (List Int)) → (List Int) → Option R) × (Int → Int → Int → Int → Int → Int → Int → Int → (List Int) → (List Int) → Int → Int → Int → Int → (List Int) → (List Int) → (List Bool) → (List (List Int)) → (List Int) → Option R)
  | 0 => (fun _ _ _ _ _ _ _ _ _ _ _ _ _ _ _ _ => none, fun _ _ _ _ _ _ _ _ _ _ _ _ _ _ _ _ _ _ _ => none)
  | n + 1 => (s_tutorref07_search_8 (run_tutorref07_search K0 n).1 (run_tutorref07_search K0 n).2 K0, s_tutorref07_search_12 (run_tutorref07_search K0 n).1 (run_tutorref07_search K0 n).2 K0)

def l_tutorref07_search {R : Type} (a : Int) (a_1 : Int) (a_2 : Int) (a_3 : Int) (a_4 : List Int) (a_5 : List Int) (b : Int) (b_1 : Int) (b_2 : Int) (b_3 : Int) (b_4 : List Int) (b_5 : List Int) (s : Int) (t : Int) (K0 : Bool → (List Int) → Option R) : Option R :=
  bi (decide ((checkR a a_1 a_2 a_3 a_4 a_5).2 = 0 ∧ (checkR b b_1 b_2 b_3 b_4 b_5).2 = 0 ∧ a = b ∧ a_1 = b_1 ∧ (0 ≤ s ∧ s < a_3) ∧ (0 ≤ t ∧ t < b_3)))
    (K0 (searchS ⟨a, a_1, a_3, b_3, a_4, a_5, b_4, b_5⟩ (s, t)).1 (searchS ⟨a, a_1, a_3, b_3, a_4, a_5, b_4, b_5⟩ (s, t)).2) none

/-- The marks are the row's. -/
structure Marks (D : Duo) (kn : List Bool) (L : List PW) : Prop where
  len : kn.length = (D.N * D.M).toNat
  get : ∀ q, D.inn q → kn.getD (q.1 * D.M + q.2).toNat false = known L q

theorem getD_setB (l : List Bool) (i t : Nat) (x : Bool) : (l.set i x).getD t false = if i = t ∧ i < l.length then x else l.getD t false := by
  rw [List.getD_eq_getElem?_getD, List.getElem?_set, List.getD_eq_getElem?_getD]
  by_cases h : i = t
  · subst h
    by_cases h2 : i < l.length
    · simp [h2]
    · simp [h2]
  · simp [h]

theorem known_snoc (L : List PW) (p q : Int × Int) (w : List Int) : known (L ++ [(p, w)]) q = (known L q || decide (p = q)) := by
  unfold known
  rw [List.any_append]
  congr 1
  rw [Bool.eq_iff_iff]
  simp [Prod.ext_iff]

theorem Marks.push {D : Duo} {kn : List Bool} {L : List PW} (M : Marks D kn L) {p : Int × Int} (hp : D.inn p) (w : List Int) : Marks D (kn.set (p.1 * D.M + p.2).toNat true) (L ++ [(p, w)]) := by
  refine ⟨by rw [List.length_set]; exact M.len, ?_⟩
  intro q hq
  have i1 := pair_in hp
  have i2 := pair_in hq
  have hl := M.len
  rw [getD_setB, known_snoc, M.get q hq]
  by_cases c : p = q
  · subst c
    rw [if_pos ⟨rfl, by omega⟩, decide_eq_true rfl, Bool.or_true]
  · rw [if_neg, decide_eq_false c, Bool.or_false]
    rintro ⟨h, _⟩
    have := pair_inj hp.2 hq.2 (show p.1 * D.M + p.2 = q.1 * D.M + q.2 by omega)
    exact c (Prod.ext this.1 this.2)

theorem words_get (L : List PW) (i : Nat) : (L.map (·.2)).getD i [] = (L.getD i pw0).2 := by
  simp only [List.getD_eq_getElem?_getD, List.getElem?_map]
  cases L[i]? <;> rfl
theorem ats_get (D : Duo) {L : List PW} {i : Nat} (h : i < L.length) : (L.map fun e => e.1.1 * D.M + e.1.2).getD i 0 = (L.getD i pw0).1.1 * D.M + (L.getD i pw0).1.2 := by
  rw [getD_of 0 (by simpa using h), List.getElem_map, getD_of pw0 h]
theorem pair_div {M a b : Int} (ha : 0 ≤ a) (h1 : 0 ≤ b ∧ b < M) : (a * M + b).tdiv M = a ∧ (a * M + b).tmod M = b := by
  have h0 : 0 ≤ a * M := Int.mul_nonneg ha (by omega)
  rw [Int.tdiv_eq_ediv_of_nonneg (by omega), Int.tmod_eq_emod_of_nonneg (by omega)]
  constructor
  · rw [Int.add_comm, Int.add_mul_ediv_right _ _ (by omega), Int.ediv_eq_zero_of_lt h1.1 h1.2]; omega
  · rw [Int.add_comm, Int.add_mul_emod_self_right, Int.emod_eq_of_lt h1.1 h1.2]

theorem rsearch_run {R : Type} {D : Duo} {O O' : Int} (A : Fine D.k D.K O D.N D.nx D.ou) (B : Fine D.k D.K O' D.M D.nx' D.ou') (s : Int × Int) (K0 : Bool → List Int → Option R) :
    ∀ (n i x : Nat) (L : List PW) (kn : List Bool) (r : Bool × List Int), bfs D n i x L = some r → Inv D s L → Marks D kn L → i < L.length → x ≤ D.K.toNat →
    Reach (fun m => (run_tutorref07_search K0 m).2 i (L.getD i pw0).1.1 (L.getD i pw0).1.2 x D.k D.K O D.N D.nx D.ou D.k D.K O' D.M D.nx' D.ou' kn (L.map (·.2)) (L.map fun e => e.1.1 * D.M + e.1.2)) (K0 r.1 r.2)
  | 0, _, _, _, _, _, h, _, _, _, _ => by cases h
  | n + 1, i, x, L, kn, r, h, I, W, hi, hx => by
    have F : D.Fine := ⟨⟨O, A⟩, ⟨O', B⟩⟩
    have hK := A.fK
    have hNK := mulK ⟨A.fN, A.fK⟩
    have hMK := mulK ⟨B.fN, B.fK⟩
    have hNM := mul_most A.fN B.fN
    have hmost := I.most
    have hm : L.getD i pw0 ∈ L := getD_mem hi
    have hp := I.inn _ hm
    have hrow : (L.map (·.2)).length = L.length := List.length_map _
    have hat : (L.map fun e => e.1.1 * D.M + e.1.2).length = L.length := List.length_map _
    unfold bfs at h
    by_cases c : (x : Int) < D.K
    · rw [if_pos c] at h
      have hx' : 0 ≤ (x : Int) ∧ (x : Int) < D.K := ⟨by omega, c⟩
      have i1 := idx_in hp.1 hx'
      have i2 := idx_in hp.2 hx'
      have f1 := A.fnx
      have f2 := B.fnx
      have hq := nxt_inn F hp hx'
      have hlen := I.len i hi
      have key : ∀ m, (run_tutorref07_search K0 (m + 1)).2 i (L.getD i pw0).1.1 (L.getD i pw0).1.2 x D.k D.K O D.N D.nx D.ou D.k D.K O' D.M D.nx' D.ou' kn (L.map (·.2)) (L.map fun e => e.1.1 * D.M + e.1.2) =
          if D.sy (L.getD i pw0).1 x || D.st (D.nxt (L.getD i pw0).1 x) then K0 true ((L.getD i pw0).2 ++ [(x : Int)])
          else if known L (D.nxt (L.getD i pw0).1 x) then (run_tutorref07_search K0 m).2 i (L.getD i pw0).1.1 (L.getD i pw0).1.2 ((x + 1 : Nat) : Int) D.k D.K O D.N D.nx D.ou D.k D.K O' D.M D.nx' D.ou' kn (L.map (·.2)) (L.map fun e => e.1.1 * D.M + e.1.2)
          else (run_tutorref07_search K0 m).2 i (L.getD i pw0).1.1 (L.getD i pw0).1.2 ((x + 1 : Nat) : Int) D.k D.K O D.N D.nx D.ou D.k D.K O' D.M D.nx' D.ou'
            (kn.set ((D.nxt (L.getD i pw0).1 x).1 * D.M + (D.nxt (L.getD i pw0).1 x).2).toNat true) (L.map (·.2) ++ [(L.getD i pw0).2 ++ [(x : Int)]]) ((L.map fun e => e.1.1 * D.M + e.1.2) ++ [(D.nxt (L.getD i pw0).1 x).1 * D.M + (D.nxt (L.getD i pw0).1 x).2]) := by
        intro m
        rw [show (run_tutorref07_search K0 (m + 1)).2 = s_tutorref07_search_12 (run_tutorref07_search K0 m).1 (run_tutorref07_search K0 m).2 K0 from rfl]
        unfold s_tutorref07_search_12
        rw [br_pos c, hrow, br_pos (by omega), Int.toNat_natCast, words_get]
        generalize hP : L.getD i pw0 = P at *
        obtain ⟨⟨p1, p2⟩, w⟩ := P
        dsimp only at hp i1 i2 hq hlen ⊢
        rw [join_eq (by
          show w.length + 1 ≤ 1000000000
          omega)]
        rw [wr (p1 * D.K) (by omega) (by omega), wr (p2 * D.K) (by omega) (by omega), wr (p1 * D.K + x) (by omega) (by omega), wr (p2 * D.K + x) (by omega) (by omega), wr ((x : Int) + 1) (by omega) (by omega)]
        rw [br_pos (by omega), br_pos (by omega)]
        rw [show l_tutorref07_now D.k D.K O D.N D.nx D.ou D.k D.K O' D.M D.nx' D.ou' p1 p2 x _ = _ from now_sy A B (p := (p1, p2)) hp hx' _]
        try dsimp only
        cases hsy : D.sy (p1, p2) x with
        | true => rw [br_tt, Bool.true_or, if_pos rfl]
        | false =>
        rw [br_ff, Bool.false_or]
        rw [show D.nx.getD (p1 * D.K + x).toNat 0 = (D.nxt (p1, p2) x).1 from rfl, show D.nx'.getD (p2 * D.K + x).toNat 0 = (D.nxt (p1, p2) x).2 from rfl]
        generalize hq' : D.nxt (p1, p2) x = q at *
        rw [now_st A B hq]
        try dsimp only
        cases hst : D.st q with
        | true => rw [br_tt, if_pos rfl]
        | false =>
        rw [br_ff, if_neg (by decide)]
        have i3 := pair_in hq
        have i4 : 0 ≤ q.1 * D.M := Int.mul_nonneg hq.1.1 (by have := B.fN; omega)
        have i5 := hq.2.1
        have hl := W.len
        rw [wr (q.1 * D.M) (by omega) (by omega), wr (q.1 * D.M + q.2) (by omega) (by omega), br_pos (by omega), W.get q hq]
        cases hkn : known L q with
        | true =>
          rw [show (!true) = false from rfl, br_ff, if_pos rfl]
          rfl
        | false =>
          rw [show (!false) = true from rfl, br_tt, if_neg (by decide), br_pos (by omega), br_pos (by
            show (L.length + 1) * 24 ≤ 140737488355328
            omega), hat, br_pos (by
            show (L.length + 1) * 8 ≤ 140737488355328
            omega)]
          rfl
      cases h1 : D.sy (L.getD i pw0).1 x || D.st (D.nxt (L.getD i pw0).1 x) with
      | true =>
        rw [h1, if_pos rfl] at h
        cases h
        exact .now fun m => by rw [key, h1, if_pos rfl]
      | false =>
        rw [h1, if_neg (by decide)] at h
        rw [Bool.or_eq_false_iff] at h1
        cases h2 : known L (D.nxt (L.getD i pw0).1 x) with
        | true =>
          rw [h2, if_pos rfl] at h
          exact .step (fun m => by rw [key, h1.1, h1.2, h2, Bool.or_false, if_neg (by decide), if_pos rfl]) (rsearch_run A B s K0 n i (x + 1) L kn r h I W hi (by omega))
        | false =>
          rw [h2, if_neg (by decide)] at h
          refine .step (fun m => by rw [key, h1.1, h1.2, h2, Bool.or_false, if_neg (by decide), if_neg (by decide)]) ?_
          have ih := rsearch_run A B s K0 n i (x + 1) _ _ r h (I.push F hi hx' h1.2 h2) (W.push hq _) (by simp; omega) (by omega)
          rw [List.map_append, List.map_append, getD_snoc, if_pos hi] at ih
          exact ih
    · rw [if_neg c] at h
      have key : ∀ m, (run_tutorref07_search K0 (m + 1)).2 i (L.getD i pw0).1.1 (L.getD i pw0).1.2 x D.k D.K O D.N D.nx D.ou D.k D.K O' D.M D.nx' D.ou' kn (L.map (·.2)) (L.map fun e => e.1.1 * D.M + e.1.2) =
          (run_tutorref07_search K0 m).1 ((i + 1 : Nat) : Int) D.k D.K O D.N D.nx D.ou D.k D.K O' D.M D.nx' D.ou' kn (L.map (·.2)) (L.map fun e => e.1.1 * D.M + e.1.2) := by
        intro m
        rw [show (run_tutorref07_search K0 (m + 1)).2 = s_tutorref07_search_12 (run_tutorref07_search K0 m).1 (run_tutorref07_search K0 m).2 K0 from rfl]
        unfold s_tutorref07_search_12
        rw [br_neg c, wr _ (by omega) (by omega)]
        rfl
      refine .step key ?_
      by_cases h3 : i + 1 < L.length
      · rw [if_pos h3] at h
        have hp2 := I.inn _ (getD_mem (d := pw0) h3)
        have hb := B.fN
        refine .step (fun m => ?_) (rsearch_run A B s K0 n (i + 1) 0 L kn r h I W h3 (by omega))
        rw [show (run_tutorref07_search K0 (m + 1)).1 = s_tutorref07_search_8 (run_tutorref07_search K0 m).1 (run_tutorref07_search K0 m).2 K0 from rfl]
        unfold s_tutorref07_search_8
        have hd := pair_div hp2.1.1 hp2.2
        have hN := A.fN
        rw [hrow, hat, br_pos (by omega), br_pos (by omega), br_neg (by omega), br_pos (by omega), br_neg (by omega), Int.toNat_natCast, ats_get D h3, hd.1, hd.2, wr _ (by have := hp2.1; omega) (by have := hp2.1; omega)]
        rfl
      · rw [if_neg h3] at h
        cases h
        refine .now fun m => ?_
        rw [show (run_tutorref07_search K0 (m + 1)).1 = s_tutorref07_search_8 (run_tutorref07_search K0 m).1 (run_tutorref07_search K0 m).2 K0 from rfl]
        unfold s_tutorref07_search_8
        rw [hrow, br_neg (by omega)]

theorem ok_tutorref07_search {R : Type} (a : Int) (a_1 : Int) (a_2 : Int) (a_3 : Int) (a_4 : List Int) (a_5 : List Int) (b : Int) (b_1 : Int) (b_2 : Int) (b_3 : Int) (b_4 : List Int) (b_5 : List Int) (s : Int) (t : Int) (K0 : Bool → (List Int) → Option R) {r : R} (h : l_tutorref07_search a a_1 a_2 a_3 a_4 a_5 b b_1 b_2 b_3 b_4 b_5 s t K0 = some r) : ∃ fuel, e_tutorref07_search (run_tutorref07_search K0 fuel).1 (run_tutorref07_search K0 fuel).2 K0 a a_1 a_2 a_3 a_4 a_5 b b_1 b_2 b_3 b_4 b_5 s t = some r := by
  unfold l_tutorref07_search at h
  rcases bi_some h with ⟨hs, h'⟩ | ⟨_, h'⟩
  · obtain ⟨h1, h2, rfl, rfl, h3, h4⟩ := of_decide_eq_true hs
    have A := checkR_fine.1 h1
    have B := checkR_fine.1 h2
    rw [← h']
    have hin : (⟨a, a_1, a_3, b_3, a_4, a_5, b_4, b_5⟩ : Duo).inn (s, t) := ⟨h3, h4⟩
    have e0 := now_st (R := R) (D := ⟨a, a_1, a_3, b_3, a_4, a_5, b_4, b_5⟩) (O := a_2) (O' := b_2) A B hin
    dsimp only at e0
    unfold e_tutorref07_search
    have F : (⟨a, a_1, a_3, b_3, a_4, a_5, b_4, b_5⟩ : Duo).Fine := ⟨⟨_, A⟩, ⟨_, B⟩⟩
    cases hst : Duo.st ⟨a, a_1, a_3, b_3, a_4, a_5, b_4, b_5⟩ (s, t) with
    | true =>
      refine ⟨0, ?_⟩
      rw [e0]
      try dsimp only
      rw [hst, br_tt]
      unfold searchS
      rw [if_pos hst]
      try rfl
    | false =>
      have hNM := mul_most A.fN B.fN
      have i1 := pair_in hin
      have i2 : 0 ≤ s * b_3 := Int.mul_nonneg h3.1 (by omega)
      dsimp only at i1
      have M0 : Marks ⟨a, a_1, a_3, b_3, a_4, a_5, b_4, b_5⟩ ((List.replicate (a_3 * b_3).toNat false).set (s * b_3 + t).toNat true) [((s, t), [])] := by
        have Z : Marks ⟨a, a_1, a_3, b_3, a_4, a_5, b_4, b_5⟩ (List.replicate (a_3 * b_3).toNat false) [] := by
          refine ⟨by simp, fun q _ => ?_⟩
          rw [List.getD_eq_getElem?_getD, List.getElem?_replicate]
          show (if _ then _ else _ : Option Bool).getD false = false
          split <;> rfl
        exact Z.push hin []
      obtain ⟨n, hn⟩ := (rsearch_run (D := ⟨a, a_1, a_3, b_3, a_4, a_5, b_4, b_5⟩) (O := a_2) (O' := b_2) A B (s, t) K0 _ 0 0 _ _ _ (searchS_run F hin hst) (Inv.start hin hst) M0 (by simp) (by omega)).get
      refine ⟨n + 1, ?_⟩
      rw [e0]
      try dsimp only
      rw [hst, br_ff, wr (a_3 * b_3) (by omega) (by omega), wr (s * b_3) (by omega) (by omega), wr (s * b_3 + t) (by omega) (by omega), br_pos (by omega), List.length_replicate, br_pos (by omega)]
      rw [show (run_tutorref07_search K0 (n + 1)).1 = s_tutorref07_search_8 (run_tutorref07_search K0 n).1 (run_tutorref07_search K0 n).2 K0 from rfl]
      unfold s_tutorref07_search_8
      have hd := pair_div h3.1 h4
      rw [br_pos (by simp), br_pos (by simp), br_neg (by omega), br_pos (by simp), br_neg (by omega)]
      rw [show [s * b_3 + t].getD (0 : Int).toNat 0 = s * b_3 + t from rfl, hd.1, hd.2, wr s (by have := A.fN; omega) (by have := A.fN; omega)]
      exact hn
  · cases h'

theorem rsearch_eq {R : Type} {D : Duo} {O O' : Int} (A : Fine D.k D.K O D.N D.nx D.ou) (B : Fine D.k D.K O' D.M D.nx' D.ou') {s : Int × Int} (hs : D.inn s) (K0 : Bool → List Int → Option R) :
    l_tutorref07_search D.k D.K O D.N D.nx D.ou D.k D.K O' D.M D.nx' D.ou' s.1 s.2 K0 = K0 (searchS D s).1 (searchS D s).2 := by
  unfold l_tutorref07_search
  rw [br_pos ⟨checkR_fine.2 A, checkR_fine.2 B, rfl, rfl, hs⟩]

/-- tutor/tutorref07.Has -/
def s_tutorref07_Has_2 {R : Type} (g40_2 : (List (List Int)) → (List Int) → Int → Option R) (K0 : Bool → Option R) (l : List (List Int)) (w : List Int) (i : Int) : Option R :=
  bi (decide (i < (l.length : Int)))
   (bi (decide (0 ≤ i ∧ i < ((l.length : Nat) : Int)))
    (l_tutorref01_Same (l.getD i.toNat []) w
     (fun r1 =>
      bi r1
       (K0 true)
       (g40_2 l w (IntKind.i64.wrap (i + 1)))))
    none)
   (K0 false)

/-- tutor/tutorref07.Has -/
def e_tutorref07_Has {R : Type} (g40_2 : (List (List Int)) → (List Int) → Int → Option R) (K0 : Bool → Option R) (l : List (List Int)) (w : List Int) : Option R :=
  g40_2 l w 0

def run_tutorref07_Has {R : Type} (K0 : Bool → Option R) : Nat → (List (List Int)) → (List Int) → Int → Option R
  | 0 => fun _ _ _ => none
  | n + 1 => s_tutorref07_Has_2 (run_tutorref07_Has K0 n) K0

def l_tutorref07_Has {R : Type} (l : List (List Int)) (w : List Int) (K0 : Bool → Option R) : Option R := bi (decide (shortQ l)) (K0 (decide (w ∈ l))) none

theorem ok_tutorref07_Has {R : Type} (l : List (List Int)) (w : List Int) (K0 : Bool → Option R) {r : R} (h : l_tutorref07_Has l w K0 = some r) : ∃ fuel, e_tutorref07_Has (run_tutorref07_Has K0 fuel) K0 l w = some r := by
  unfold l_tutorref07_Has at h
  rcases bi_some h with ⟨hs, h⟩ | ⟨_, h⟩
  · have hs : shortQ l := of_decide_eq_true hs
    have hl : l.length < 4611686018427387904 := hs.1
    refine ⟨l.length + 1, ?_⟩
    rw [← h]
    unfold e_tutorref07_Has
    refine (scan_all (F := fun m i => run_tutorref07_Has K0 m l w (i : Int)) (eqW w) (l := l) (A := fun i => K0 true) (B := K0 false)
      (fun m => by
        dsimp only [run_tutorref07_Has]
        unfold s_tutorref07_Has_2
        rw [br_neg (by omega)])
      (fun m i hi => by
        dsimp only [run_tutorref07_Has]
        unfold s_tutorref07_Has_2
        rw [br_pos (by omega), br_pos (by omega), Int.toNat_natCast, getD_of [] hi, same_eq (hs.2 _ (List.getElem_mem hi)), wr _ (by omega) (by omega)]
        try dsimp only
        unfold eqW
        by_cases c : l[i] = w
        · rw [decide_eq_true c, br_tt, if_pos rfl]
        · rw [decide_eq_false c, br_ff, if_neg (by decide)]
          rfl)).trans ?_
    rw [← findP_mem]
    cases hf : findP (eqW w) l with
    | none => rfl
    | some i => rfl
  · cases h

theorem has_eq {R : Type} {l : List (List Int)} (h : shortQ l) (w : List Int) (K0 : Bool → Option R) : l_tutorref07_Has l w K0 = K0 (decide (w ∈ l)) := by
  unfold l_tutorref07_Has
  rw [br_pos h]

/-- tutor/tutorref07.Pairs -/
def s_tutorref07_Pairs_6 {R : Type} (g24_6 : Int → Int → Int → Int → Int → (List Int) → (List Int) → (List (List Int)) → Option R) (g24_9 : Int → Int → Int → Int → Int → Int → (List Int) → (List Int) → (List (List Int)) → Option R) (K0 : Int → (List (List Int)) → Option R) (s : Int) (o0 : Int) (o0_1 : Int) (o0_2 : Int) (o0_3 : Int) (o0_4 : List Int) (o0_5 : List Int) (o1 : List (List Int)) : Option R :=
  bi (decide (s < o0_3))
   (g24_9 s (IntKind.i64.wrap (s + 1)) o0 o0_1 o0_2 o0_3 o0_4 o0_5 o1)
   (K0 0 o1)

/-- tutor/tutorref07.Pairs -/
def s_tutorref07_Pairs_9 {R : Type} (g24_6 : Int → Int → Int → Int → Int → (List Int) → (List Int) → (List (List Int)) → Option R) (g24_9 : Int → Int → Int → Int → Int → Int → (List Int) → (List Int) → (List (List Int)) → Option R) (K0 : Int → (List (List Int)) → Option R) (s : Int) (t : Int) (o0 : Int) (o0_1 : Int) (o0_2 : Int) (o0_3 : Int) (o0_4 : List Int) (o0_5 : List Int) (o1 : List (List Int)) : Option R :=
  bi (decide (t < o0_3))
   (l_tutorref07_search o0 o0_1 o0_2 o0_3 o0_4 o0_5 o0 o0_1 o0_2 o0_3 o0_4 o0_5 s t
    (fun r3 r4 =>
     bi r3
      (l_tutorref07_Has o1 r4
       (fun r5 =>
        bi (!r5)
         (bi (decide ((o1.length + [r4].length) * 24 ≤ lim))
          (g24_9 s (IntKind.i64.wrap (t + 1)) o0 o0_1 o0_2 o0_3 o0_4 o0_5 (o1 ++ [r4]))
          none)
         (g24_9 s (IntKind.i64.wrap (t + 1)) o0 o0_1 o0_2 o0_3 o0_4 o0_5 o1)))
      (g24_9 s (IntKind.i64.wrap (t + 1)) o0 o0_1 o0_2 o0_3 o0_4 o0_5 o1)))
   (g24_6 (IntKind.i64.wrap (s + 1)) o0 o0_1 o0_2 o0_3 o0_4 o0_5 o1)

/-- tutor/tutorref07.Pairs -/
def e_tutorref07_Pairs {R : Type} (g24_6 : Int → Int → Int → Int → Int → (List Int) → (List Int) → (List (List Int)) → Option R) (g24_9 : Int → Int → Int → Int → Int → Int → (List Int) → (List Int) → (List (List Int)) → Option R) (K0 : Int → (List (List Int)) → Option R) (m : Int) (m_1 : Int) (m_2 : Int) (m_3 : Int) (m_4 : List Int) (m_5 : List Int) : Option R :=
  l_tutorref03_Check m m_1 m_2 m_3 m_4 m_5
   (fun r1 r2 =>
    bi (r2 != 0)
     (K0 r2 ([] : List (List Int)))
     (g24_6 0 m m_1 m_2 m_3 m_4 m_5 ([] : List (List Int))))

def run_tutorref07_Pairs {R : Type} (K0 : Int → (List (List Int)) → Option R) : Nat → (Int → Int → Int → Int → Int → (List Int) → (List Int) → (List (List Int)) → Option R) × (Int → Int → Int → Int → Int → Int → (List Int) → (List Int) → (List (List Int)) → Option R)
  | 0 => (fun _ _ _ _ _ _ _ _ => none, fun _ _ _ _ _ _ _ _ _ => none)
  | n + 1 => (s_tutorref07_Pairs_6 (run_tutorref07_Pairs K0 n).1 (run_tutorref07_Pairs K0 n).2 K0, s_tutorref07_Pairs_9 (run_tutorref07_Pairs K0 n).1 (run_tutorref07_Pairs K0 n).2 K0)

theorem rpairs_in {R : Type} {k K O N : Int} {nx ou : List Int} (A : Fine k K O N nx ou) (K0 : Int → (List (List Int)) → Option R) {v : Option R} {s : Nat} (hs : (s : Int) < N) :
    ∀ (d t n : Nat) (o : List (List Int)), (t : Int) + d = N → n + d ≤ 2097152 → Pr n o → Reach (fun m => (run_tutorref07_Pairs K0 m).1 ((s + 1 : Nat) : Int) k K O N nx ou (pin ⟨k, K, N, N, nx, ou, nx, ou⟩ s d t o)) v →
    Reach (fun m => (run_tutorref07_Pairs K0 m).2 s t k K O N nx ou o) v
  | 0, t, n, o, ht, _, P, h => by
    have hN := A.fN
    refine .step (fun m => ?_) h
    rw [show (run_tutorref07_Pairs K0 (m + 1)).2 = s_tutorref07_Pairs_9 (run_tutorref07_Pairs K0 m).1 (run_tutorref07_Pairs K0 m).2 K0 from rfl]
    unfold s_tutorref07_Pairs_9
    rw [br_neg (by omega), wr _ (by omega) (by omega)]
    rfl
  | d + 1, t, n, o, ht, hn, P, h => by
    have hN := A.fN
    have F : (⟨k, K, N, N, nx, ou, nx, ou⟩ : Duo).Fine := ⟨⟨_, A⟩, ⟨_, A⟩⟩
    have hin : (⟨k, K, N, N, nx, ou, nx, ou⟩ : Duo).inn ((s : Int), (t : Int)) := ⟨by dsimp only; omega, by dsimp only; omega⟩
    have ih := rpairs_in A K0 hs d (t + 1) (n + 1) (pstep ⟨k, K, N, N, nx, ou, nx, ou⟩ ((s : Int), (t : Int)) o) (by omega) (by omega) (pstep_pr F hin P) h
    have hf := P.few
    refine .step (fun m => ?_) ih
    rw [show (run_tutorref07_Pairs K0 (m + 1)).2 = s_tutorref07_Pairs_9 (run_tutorref07_Pairs K0 m).1 (run_tutorref07_Pairs K0 m).2 K0 from rfl]
    unfold s_tutorref07_Pairs_9
    rw [br_pos (by omega), wr ((t : Int) + 1) (by omega) (by omega)]
    rw [show l_tutorref07_search k K O N nx ou k K O N nx ou (s : Int) (t : Int) _ = _ from rsearch_eq (D := ⟨k, K, N, N, nx, ou, nx, ou⟩) (s := ((s : Int), (t : Int))) A A hin _]
    try dsimp only
    unfold pstep
    cases (searchS ⟨k, K, N, N, nx, ou, nx, ou⟩ ((s : Int), (t : Int))).1 with
    | false =>
      rw [br_ff, if_neg (by decide)]
      rfl
    | true =>
      rw [br_tt, if_pos rfl, has_eq (P.short (by omega))]
      try dsimp only
      by_cases c : (searchS ⟨k, K, N, N, nx, ou, nx, ou⟩ ((s : Int), (t : Int))).2 ∈ o
      · rw [decide_eq_true c, show (!true) = false from rfl, br_ff, if_pos c]
        rfl
      · rw [decide_eq_false c, show (!false) = true from rfl, br_tt, if_neg c, br_pos (by
          show (o.length + 1) * 24 ≤ 140737488355328
          omega)]
        rfl

theorem rpairs_out {R : Type} {k K O N : Int} {nx ou : List Int} (A : Fine k K O N nx ou) (K0 : Int → (List (List Int)) → Option R) :
    ∀ (d s : Nat) (o : List (List Int)), (s : Int) + d = N → Pr (s * 1024) o → Reach (fun m => (run_tutorref07_Pairs K0 m).1 s k K O N nx ou o) (K0 0 (pout ⟨k, K, N, N, nx, ou, nx, ou⟩ N.toNat d s o))
  | 0, s, o, hs, P => by
    refine .now fun m => ?_
    rw [show (run_tutorref07_Pairs K0 (m + 1)).1 = s_tutorref07_Pairs_6 (run_tutorref07_Pairs K0 m).1 (run_tutorref07_Pairs K0 m).2 K0 from rfl]
    unfold s_tutorref07_Pairs_6
    rw [br_neg (by omega)]
    rfl
  | d + 1, s, o, hs, P => by
    have hN := A.fN
    have F : (⟨k, K, N, N, nx, ou, nx, ou⟩ : Duo).Fine := ⟨⟨_, A⟩, ⟨_, A⟩⟩
    have ih := rpairs_out A K0 d (s + 1) (pin ⟨k, K, N, N, nx, ou, nx, ou⟩ s (N.toNat - (s + 1)) (s + 1) o) (by omega) ((pin_pr F (show (s : Int) < N by omega) _ (s + 1) _ o (show ((s + 1 + (N.toNat - (s + 1)) : Nat) : Int) ≤ N by omega) P).up (by omega))
    have := rpairs_in A K0 (s := s) (by omega) (N.toNat - (s + 1)) (s + 1) (s * 1024) o (by omega) (by omega) P ih
    refine .step (fun m => ?_) this
    rw [show (run_tutorref07_Pairs K0 (m + 1)).1 = s_tutorref07_Pairs_6 (run_tutorref07_Pairs K0 m).1 (run_tutorref07_Pairs K0 m).2 K0 from rfl]
    unfold s_tutorref07_Pairs_6
    rw [br_pos (by omega), wr _ (by omega) (by omega)]
    rfl

def l_tutorref07_Pairs {R : Type} (m : Int) (m_1 : Int) (m_2 : Int) (m_3 : Int) (m_4 : List Int) (m_5 : List Int) (K0 : Int → (List (List Int)) → Option R) : Option R :=
  bi (decide (short m_4 ∧ short m_5)) (K0 (pairsS m m_1 m_2 m_3 m_4 m_5).1 (pairsS m m_1 m_2 m_3 m_4 m_5).2) none

theorem ok_tutorref07_Pairs {R : Type} (m : Int) (m_1 : Int) (m_2 : Int) (m_3 : Int) (m_4 : List Int) (m_5 : List Int) (K0 : Int → (List (List Int)) → Option R) {r : R} (h : l_tutorref07_Pairs m m_1 m_2 m_3 m_4 m_5 K0 = some r) :
    ∃ fuel, e_tutorref07_Pairs (run_tutorref07_Pairs K0 fuel).1 (run_tutorref07_Pairs K0 fuel).2 K0 m m_1 m_2 m_3 m_4 m_5 = some r := by
  unfold l_tutorref07_Pairs at h
  rcases bi_some h with ⟨hs, h'⟩ | ⟨_, h'⟩
  · have hs := of_decide_eq_true hs
    rw [← h']
    unfold e_tutorref07_Pairs pairsS l_tutorref03_Check
    by_cases c1 : (checkR m m_1 m_2 m_3 m_4 m_5).2 = 0
    · have A := checkR_fine.1 c1
      have hN := A.fN
      obtain ⟨n, hn⟩ := (rpairs_out A K0 m_3.toNat 0 [] (by omega) ⟨by simp, fun w hw => by cases hw⟩).get
      refine ⟨n, ?_⟩
      rw [br_pos hs]
      try dsimp only
      rw [br_ne' c1, if_neg (by simpa using c1)]
      exact hn
    · refine ⟨0, ?_⟩
      rw [br_pos hs]
      try dsimp only
      rw [br_ne c1, if_pos (by simpa using c1)]
  · cases h'

theorem rpairs_eq {R : Type} {k K O N : Int} {nx ou : List Int} (h1 : short nx) (h2 : short ou) (K0 : Int → (List (List Int)) → Option R) :
    l_tutorref07_Pairs k K O N nx ou K0 = K0 (pairsS k K O N nx ou).1 (pairsS k K O N nx ou).2 := by
  unfold l_tutorref07_Pairs
  rw [br_pos ⟨h1, h2⟩]

/-- tutor/tutorref01.Lists -/
def s_tutorref01_Lists_4 {R : Type} (g25_4 : (List (List Int)) → (List (List Int)) → Int → Option R) (K0 : Bool → Option R) (a : List (List Int)) (b : List (List Int)) (i : Int) : Option R :=
  bi (decide (i < (a.length : Int)))
   (bi (decide (0 ≤ i ∧ i < ((a.length : Nat) : Int)))
    (bi (decide (0 ≤ i ∧ i < ((b.length : Nat) : Int)))
     (l_tutorref01_Same (a.getD i.toNat []) (b.getD i.toNat [])
      (fun r1 =>
       bi (!r1)
        (K0 false)
        (g25_4 a b (IntKind.i64.wrap (i + 1)))))
     none)
    none)
   (K0 true)

/-- tutor/tutorref01.Lists -/
def e_tutorref01_Lists {R : Type} (g25_4 : (List (List Int)) → (List (List Int)) → Int → Option R) (K0 : Bool → Option R) (a : List (List Int)) (b : List (List Int)) : Option R :=
  bi ((a.length : Int) != (b.length : Int))
   (K0 false)
   (g25_4 a b 0)

def run_tutorref01_Lists {R : Type} (K0 : Bool → Option R) : Nat → (List (List Int)) → (List (List Int)) → Int → Option R
  | 0 => fun _ _ _ => none
  | n + 1 => s_tutorref01_Lists_4 (run_tutorref01_Lists K0 n) K0

def shortR (a : List (List Int)) : Prop := short a ∧ ∀ x ∈ a, short x
instance (a : List (List Int)) : Decidable (shortR a) := by unfold shortR; infer_instance

def l_tutorref01_Lists {R : Type} (a : List (List Int)) (b : List (List Int)) (K0 : Bool → Option R) : Option R := bi (decide (shortR a)) (K0 (decide (a = b))) none

theorem listsLoop {R : Type} {a b : List (List Int)} (ha : shortR a) (hl : a.length = b.length) (K0 : Bool → Option R) : ∀ (d i : Nat), i + d = a.length → a.take i = b.take i → Reach (fun m => run_tutorref01_Lists K0 m a b (i : Int)) (K0 (decide (a = b))) := by
  have hs : a.length < 4611686018427387904 := ha.1
  intro d
  induction d with
  | zero =>
    intro i hi ht
    refine .now fun m => ?_
    dsimp only [run_tutorref01_Lists]
    unfold s_tutorref01_Lists_4
    rw [List.take_of_length_le (by omega), List.take_of_length_le (by omega)] at ht
    rw [br_neg (by omega), ht]
    simp
  | succ d ih =>
    intro i hi ht
    have h1 : i < a.length := by omega
    have h2 : i < b.length := by omega
    by_cases he : a[i] = b[i]
    · refine .step (fun m => ?_) (ih (i + 1) (by omega) ?_)
      · dsimp only [run_tutorref01_Lists]
        unfold s_tutorref01_Lists_4
        rw [br_pos (by omega), br_pos (by omega), br_pos (by omega), Int.toNat_natCast, getD_of [] h1, getD_of [] h2, same_eq (ha.2 _ (List.getElem_mem h1)), decide_eq_true he, Bool.not_true, br_ff, wr _ (by omega) (by omega)]
        rfl
      · rw [List.take_add_one, List.take_add_one, ht, List.getElem?_eq_getElem h1, List.getElem?_eq_getElem h2, he]
    · refine .now fun m => ?_
      dsimp only [run_tutorref01_Lists]
      unfold s_tutorref01_Lists_4
      have hne : ¬ a = b := fun e => he (by subst e; rfl)
      rw [br_pos (by omega), br_pos (by omega), br_pos (by omega), Int.toNat_natCast, getD_of [] h1, getD_of [] h2, same_eq (ha.2 _ (List.getElem_mem h1)), decide_eq_false he, Bool.not_false, br_tt, decide_eq_false hne]

theorem ok_tutorref01_Lists {R : Type} (a : List (List Int)) (b : List (List Int)) (K0 : Bool → Option R) {r : R} (h : l_tutorref01_Lists a b K0 = some r) : ∃ fuel, e_tutorref01_Lists (run_tutorref01_Lists K0 fuel) K0 a b = some r := by
  unfold l_tutorref01_Lists at h
  rcases bi_some h with ⟨hs, h⟩ | ⟨_, h⟩
  · have ha : shortR a := of_decide_eq_true hs
    rw [← h]
    unfold e_tutorref01_Lists
    by_cases hl : a.length = b.length
    · obtain ⟨n, hn⟩ := (listsLoop ha hl K0 a.length 0 (by omega) (by simp)).get
      exact ⟨n, by rw [br_ne' (by omega)]; exact hn⟩
    · have hne : ¬ a = b := fun e => hl (by rw [e])
      exact ⟨0, by rw [br_ne (by omega), decide_eq_false hne]⟩
  · cases h

theorem lists_eq {R : Type} {a b : List (List Int)} (h : shortR a) (K0 : Bool → Option R) : l_tutorref01_Lists a b K0 = K0 (decide (a = b)) := by
  unfold l_tutorref01_Lists
  rw [br_pos h]

/-- tutor/tutorref01.Apart -/
def s_tutorref01_Apart_2 {R : Type} (g26_2 : Int → (List (List Int)) → Option R) (g26_5 : Int → Int → (List (List Int)) → Option R) (g26_9 : Int → (List (List Int)) → Option R) (g26_13 : Int → Nat → Int → (List (List Int)) → Option R) (g26_17 : Int → (List (List Int)) → Option R) (g26_13b : Int → Int → (List (List Int)) → Nat → Nat → Option R) (g26_20 : Int → Int → (List (List Int)) → Option R) (K0 : Bool → (List (List Int)) → Option R) (i : Int) (o0 : List (List Int)) : Option R :=
  bi (decide (i < (o0.length : Int)))
   (g26_5 i 0 o0)
   (g26_9 0 o0)

/-- tutor/tutorref01.Apart -/
def s_tutorref01_Apart_5 {R : Type} (g26_2 : Int → (List (List Int)) → Option R) (g26_5 : Int → Int → (List (List Int)) → Option R) (g26_9 : Int → (List (List Int)) → Option R) (g26_13 : Int → Nat → Int → (List (List Int)) → Option R) (g26_17 : Int → (List (List Int)) → Option R) (g26_13b : Int → Int → (List (List Int)) → Nat → Nat → Option R) (g26_20 : Int → Int → (List (List Int)) → Option R) (K0 : Bool → (List (List Int)) → Option R) (i : Int) (k : Int) (o0 : List (List Int)) : Option R :=
  bi (decide (0 ≤ i ∧ i < ((o0.length : Nat) : Int)))
   (bi (decide (k < ((o0.getD i.toNat []).length : Int)))
    (bi (decide (0 ≤ i ∧ i < ((o0.length : Nat) : Int)))
     (bi (decide (0 ≤ k ∧ k < (((o0.getD i.toNat []).length : Nat) : Int)))
      (g26_5 i (IntKind.i64.wrap (k + 1)) (o0.set i.toNat ((o0.getD i.toNat []).set k.toNat (IntKind.i64.wrap ((-1000) - i)))))
      none)
     none)
    (g26_2 (IntKind.i64.wrap (i + 1)) o0))
   none

/-- tutor/tutorref01.Apart -/
def s_tutorref01_Apart_9 {R : Type} (g26_2 : Int → (List (List Int)) → Option R) (g26_5 : Int → Int → (List (List Int)) → Option R) (g26_9 : Int → (List (List Int)) → Option R) (g26_13 : Int → Nat → Int → (List (List Int)) → Option R) (g26_17 : Int → (List (List Int)) → Option R) (g26_13b : Int → Int → (List (List Int)) → Nat → Nat → Option R) (g26_20 : Int → Int → (List (List Int)) → Option R) (K0 : Bool → (List (List Int)) → Option R) (i : Int) (o0 : List (List Int)) : Option R :=
  bi (decide (i < (o0.length : Int)))
   (bi (decide (0 ≤ i ∧ i < ((o0.length : Nat) : Int)))
    (g26_13 i i.toNat 0 o0)
    none)
   (g26_17 0 o0)

/-- tutor/tutorref01.Apart -/
def s_tutorref01_Apart_13a {R : Type} (g26_2 : Int → (List (List Int)) → Option R) (g26_5 : Int → Int → (List (List Int)) → Option R) (g26_9 : Int → (List (List Int)) → Option R) (g26_13 : Int → Nat → Int → (List (List Int)) → Option R) (g26_17 : Int → (List (List Int)) → Option R) (g26_13b : Int → Int → (List (List Int)) → Nat → Nat → Option R) (g26_20 : Int → Int → (List (List Int)) → Option R) (K0 : Bool → (List (List Int)) → Option R) (i : Int) (x : Nat) (k : Int) (o0 : List (List Int)) : Option R :=
  bi (decide (k < 6))
   (bi (decide (((o0.getD x []).length + [IntKind.i64.wrap ((-5000) - i)].length) * 8 ≤ lim))
    (g26_13b i (IntKind.i64.wrap (k + 1)) o0 x ((o0.getD x []).length + [IntKind.i64.wrap ((-5000) - i)].length))
    none)
   (g26_9 (IntKind.i64.wrap (i + 1)) o0)

/-- tutor/tutorref01.Apart -/
def s_tutorref01_Apart_17 {R : Type} (g26_2 : Int → (List (List Int)) → Option R) (g26_5 : Int → Int → (List (List Int)) → Option R) (g26_9 : Int → (List (List Int)) → Option R) (g26_13 : Int → Nat → Int → (List (List Int)) → Option R) (g26_17 : Int → (List (List Int)) → Option R) (g26_13b : Int → Int → (List (List Int)) → Nat → Nat → Option R) (g26_20 : Int → Int → (List (List Int)) → Option R) (K0 : Bool → (List (List Int)) → Option R) (i : Int) (o0 : List (List Int)) : Option R :=
  bi (decide (i < (o0.length : Int)))
   (g26_20 i 0 o0)
   (K0 true o0)

/-- tutor/tutorref01.Apart -/
def s_tutorref01_Apart_13b {R : Type} (g26_2 : Int → (List (List Int)) → Option R) (g26_5 : Int → Int → (List (List Int)) → Option R) (g26_9 : Int → (List (List Int)) → Option R) (g26_13 : Int → Nat → Int → (List (List Int)) → Option R) (g26_17 : Int → (List (List Int)) → Option R) (g26_13b : Int → Int → (List (List Int)) → Nat → Nat → Option R) (g26_20 : Int → Int → (List (List Int)) → Option R) (K0 : Bool → (List (List Int)) → Option R) (i : Int) (k : Int) (o0 : List (List Int)) (o1 : Nat) (o1_1 : Nat) : Option R :=
  bi (decide (k < 6))
   (bi (decide ((o1_1 + [IntKind.i64.wrap ((-5000) - i)].length) * 8 ≤ lim))
    (g26_13b i (IntKind.i64.wrap (k + 1)) o0 o1 (o1_1 + [IntKind.i64.wrap ((-5000) - i)].length))
    none)
   (g26_9 (IntKind.i64.wrap (i + 1)) o0)

/-- tutor/tutorref01.Apart -/
def s_tutorref01_Apart_20 {R : Type} (g26_2 : Int → (List (List Int)) → Option R) (g26_5 : Int → Int → (List (List Int)) → Option R) (g26_9 : Int → (List (List Int)) → Option R) (g26_13 : Int → Nat → Int → (List (List Int)) → Option R) (g26_17 : Int → (List (List Int)) → Option R) (g26_13b : Int → Int → (List (List Int)) → Nat → Nat → Option R) (g26_20 : Int → Int → (List (List Int)) → Option R) (K0 : Bool → (List (List Int)) → Option R) (i : Int) (k : Int) (o0 : List (List Int)) : Option R :=
  bi (decide (0 ≤ i ∧ i < ((o0.length : Nat) : Int)))
   (bi (decide (k < ((o0.getD i.toNat []).length : Int)))
    (bi (decide (0 ≤ i ∧ i < ((o0.length : Nat) : Int)))
     (bi (decide (0 ≤ k ∧ k < (((o0.getD i.toNat []).length : Nat) : Int)))
      (bi (((o0.getD i.toNat []).getD k.toNat 0) != (IntKind.i64.wrap ((-1000) - i)))
       (K0 false o0)
       (g26_20 i (IntKind.i64.wrap (k + 1)) o0))
      none)
     none)
    (g26_17 (IntKind.i64.wrap (i + 1)) o0))
   none

/-- tutor/tutorref01.Apart -/
def e_tutorref01_Apart {R : Type} (g26_2 : Int → (List (List Int)) → Option R) (g26_5 : Int → Int → (List (List Int)) → Option R) (g26_9 : Int → (List (List Int)) → Option R) (g26_13 : Int → Nat → Int → (List (List Int)) → Option R) (g26_17 : Int → (List (List Int)) → Option R) (g26_13b : Int → Int → (List (List Int)) → Nat → Nat → Option R) (g26_20 : Int → Int → (List (List Int)) → Option R) (K0 : Bool → (List (List Int)) → Option R) (o0 : List (List Int)) : Option R :=
  g26_2 0 o0

def run_tutorref01_Apart {R : Type} (K0 : Bool → (List (List Int)) → Option R) : Nat → (Int → (List (List Int)) → Option R) × (Int → Int → (List (List Int)) → Option R) × (Int → (List (List Int)) → Option R) × (Int → Nat → Int → (List (List Int)) → Option R) × (Int → (List (List Int)) → Option R) × (Int → Int → (List (List Int)) → Nat → Nat → Option R) × (Int → Int → (List (List Int)) → Option R)
  | 0 => (fun _ _ => none, fun _ _ _ => none, fun _ _ => none, fun _ _ _ _ => none, fun _ _ => none, fun _ _ _ _ _ => none, fun _ _ _ => none)
  | n + 1 => (s_tutorref01_Apart_2 (run_tutorref01_Apart K0 n).1 (run_tutorref01_Apart K0 n).2.1 (run_tutorref01_Apart K0 n).2.2.1 (run_tutorref01_Apart K0 n).2.2.2.1 (run_tutorref01_Apart K0 n).2.2.2.2.1 (run_tutorref01_Apart K0 n).2.2.2.2.2.1 (run_tutorref01_Apart K0 n).2.2.2.2.2.2 K0, s_tutorref01_Apart_5 (run_tutorref01_Apart K0 n).1 (run_tutorref01_Apart K0 n).2.1 (run_tutorref01_Apart K0 n).2.2.1 (run_tutorref01_Apart K0 n).2.2.2.1 (run_tutorref01_Apart K0 n).2.2.2.2.1 (run_tutorref01_Apart K0 n).2.2.2.2.2.1 (run_tutorref01_Apart K0 n).2.2.2.2.2.2 K0, s_tutorref01_Apart_9 (run_tutorref01_Apart K0 n).1 (run_tutorref01_Apart K0 n).2.1 (run_tutorref01_Apart K0 n).2.2.1 (run_tutorref01_Apart K0 n).2.2.2.1 (run_tutorref01_Apart K0 n).2.2.2.2.1 (run_tutorref01_Apart K0 n).2.2.2.2.2.1 (run_tutorref01_Apart K0 n).2.2.2.2.2.2 K0, s_tutorref01_Apart_13a (run_tutorref01_Apart K0 n).1 (run_tutorref01_Apart K0 n).2.1 (run_tutorref01_Apart K0 n).2.2.1 (run_tutorref01_Apart K0 n).2.2.2.1 (run_tutorref01_Apart K0 n).2.2.2.2.1 (run_tutorref01_Apart K0 n).2.2.2.2.2.1 (run_tutorref01_Apart K0 n).2.2.2.2.2.2 K0, s_tutorref01_Apart_17 (run_tutorref01_Apart K0 n).1 (run_tutorref01_Apart K0 n).2.1 (run_tutorref01_Apart K0 n).2.2.1 (run_tutorref01_Apart K0 n).2.2.2.1 (run_tutorref01_Apart K0 n).2.2.2.2.1 (run_tutorref01_Apart K0 n).2.2.2.2.2.1 (run_tutorref01_Apart K0 n).2.2.2.2.2.2 K0, s_tutorref01_Apart_13b (run_tutorref01_Apart K0 n).1 (run_tutorref01_Apart K0 n).2.1 (run_tutorref01_Apart K0 n).2.2.1 (run_tutorref01_Apart K0 n).2.2.2.1 (run_tutorref01_Apart K0 n).2.2.2.2.1 (run_tutorref01_Apart K0 n).2.2.2.2.2.1 (run_tutorref01_Apart K0 n).2.2.2.2.2.2 K0, s_tutorref01_Apart_20 (run_tutorref01_Apart K0 n).1 (run_tutorref01_Apart K0 n).2.1 (run_tutorref01_Apart K0 n).2.2.1 (run_tutorref01_Apart K0 n).2.2.2.1 (run_tutorref01_Apart K0 n).2.2.2.2.1 (run_tutorref01_Apart K0 n).2.2.2.2.2.1 (run_tutorref01_Apart K0 n).2.2.2.2.2.2 K0)

/-- Each row written full with a mark of its own, from a row on. -/
def markF (i : Nat) (o : List (List Int)) : List (List Int) := o.mapIdx fun j x => if i ≤ j then List.replicate x.length (-1000 - (j : Int)) else x

theorem markF_len (i : Nat) (o : List (List Int)) : (markF i o).length = o.length := by simp [markF]
theorem markF_get {i j : Nat} {o : List (List Int)} (h : j < o.length) : (markF i o).getD j [] = if i ≤ j then List.replicate (o.getD j []).length (-1000 - (j : Int)) else o.getD j [] := by
  unfold markF
  rw [getD_of [] (by simpa using h), List.getElem_mapIdx, getD_of [] h]

theorem rows_ext {o p : List (List Int)} (hl : o.length = p.length) (h : ∀ j, j < o.length → o.getD j [] = p.getD j []) : o = p := by
  refine List.ext_getElem hl fun j h1 h2 => ?_
  have := h j h1
  rwa [getD_of [] h1, getD_of [] h2] at this

theorem getD_setL (l : List (List Int)) (i t : Nat) (x : List Int) : (l.set i x).getD t [] = if i = t ∧ i < l.length then x else l.getD t [] := by
  rw [List.getD_eq_getElem?_getD, List.getElem?_set, List.getD_eq_getElem?_getD]
  by_cases h : i = t
  · subst h
    by_cases h2 : i < l.length
    · simp [h2]
    · simp [h2]
  · simp [h]

def apOk (o : List (List Int)) : Prop := short o ∧ ∀ x ∈ o, x.length ≤ 17592186044400
instance (o : List (List Int)) : Decidable (apOk o) := by unfold apOk; infer_instance

theorem apOk_set {o : List (List Int)} {i : Nat} {x : List Int} (h : apOk o) (hx : x.length ≤ 17592186044400) : apOk (o.set i x) := by
  refine ⟨by have := h.1; unfold short at *; simpa using this, fun y hy => ?_⟩
  rcases List.mem_or_eq_of_mem_set hy with h1 | rfl
  · exact h.2 y h1
  · exact hx

theorem apOk_row {o : List (List Int)} (h : apOk o) {j : Nat} (hj : j < o.length) : (o.getD j []).length ≤ 17592186044400 := by
  rw [getD_of [] hj]
  exact h.2 _ (List.getElem_mem hj)

def l_tutorref01_Apart {R : Type} (o0 : List (List Int)) (K0 : Bool → (List (List Int)) → Option R) : Option R := bi (decide (apOk o0)) (K0 true (markF 0 o0)) none

section
variable {R : Type} (K0 : Bool → (List (List Int)) → Option R) {v : Option R}

theorem ap_in {o : List (List Int)} {i : Nat} (hi : i < o.length) : ∀ (e k : Nat) (o' : List (List Int)), o'.length = o.length → apOk o' → k + e = (o'.getD i []).length →
    Reach (fun m => (run_tutorref01_Apart K0 m).1 ((i : Int) + 1) (o'.set i ((o'.getD i []).take k ++ List.replicate e (-1000 - (i : Int))))) v → Reach (fun m => (run_tutorref01_Apart K0 m).2.1 (i : Int) (k : Int) o') v := by
  intro e
  induction e with
  | zero =>
    intro k o' hl hok hk h
    have hs : o'.length < 4611686018427387904 := hok.1
    refine .step (fun m => ?_) h
    dsimp only [run_tutorref01_Apart]
    unfold s_tutorref01_Apart_5
    have e1 : o'.set i ((o'.getD i []).take k ++ List.replicate 0 (-1000 - (i : Int))) = o' := by
      refine rows_ext (by simp) fun j hj => ?_
      rw [getD_setL]
      split
      · rename_i hc
        rw [← hc.1, List.take_of_length_le (by omega)]
        simp
      · rfl
    rw [e1, br_pos (by omega), Int.toNat_natCast, br_neg (by omega), wr _ (by omega) (by omega)]
  | succ e ih =>
    intro k o' hl hok hk h
    have hs : o'.length < 4611686018427387904 := hok.1
    have hr := apOk_row hok (show i < o'.length by omega)
    refine .step (fun m => ?_) (ih (k + 1) (o'.set i ((o'.getD i []).set k (-1000 - (i : Int)))) (by simpa using hl) (apOk_set hok (by simpa using hr)) ?_ ?_)
    · dsimp only [run_tutorref01_Apart]
      unfold s_tutorref01_Apart_5
      rw [br_pos (by omega), Int.toNat_natCast, br_pos (by omega), br_pos (by omega), br_pos (by omega), wr _ (by omega) (by omega), wr _ (by omega) (by omega), Int.toNat_natCast]
      rfl
    · rw [getD_setL, if_pos ⟨rfl, by omega⟩, List.length_set]
      omega
    · rw [getD_setL, if_pos ⟨rfl, by omega⟩, List.set_set]
      have e2 : ((o'.getD i []).set k (-1000 - (i : Int))).take (k + 1) ++ List.replicate e (-1000 - (i : Int)) = (o'.getD i []).take k ++ List.replicate (e + 1) (-1000 - (i : Int)) := by
        have hk2 : k < (o'.getD i []).length := by omega
        rw [List.replicate_succ, List.take_add_one, List.take_set_of_le (Nat.le_refl k), List.append_assoc]
        congr 1
        have e3 : ((o'.getD i []).set k (-1000 - (i : Int)))[k]? = some (-1000 - (i : Int)) := by rw [List.getElem?_set, if_pos rfl, if_pos hk2]
        rw [e3]
        rfl
      rw [e2]
      exact h

theorem ap_mark : ∀ (d i : Nat) (o : List (List Int)), i + d = o.length → apOk o → Reach (fun m => (run_tutorref01_Apart K0 m).2.2.1 0 (markF i o)) v → Reach (fun m => (run_tutorref01_Apart K0 m).1 (i : Int) o) v := by
  intro d
  induction d with
  | zero =>
    intro i o hi hok h
    have hs : o.length < 4611686018427387904 := hok.1
    refine .step (fun m => ?_) h
    dsimp only [run_tutorref01_Apart]
    unfold s_tutorref01_Apart_2
    have e1 : markF i o = o := by
      refine rows_ext (markF_len i o) fun j hj => ?_
      rw [markF_len] at hj
      rw [markF_get hj, if_neg (by omega)]
    rw [br_neg (by omega), e1]
  | succ d ih =>
    intro i o hi hok h
    have hs : o.length < 4611686018427387904 := hok.1
    have hio : i < o.length := by omega
    have hr := apOk_row hok hio
    refine .step (fun m => ?_) (ap_in K0 hio (o.getD i []).length 0 o rfl hok (by omega) ?_)
    · dsimp only [run_tutorref01_Apart]
      unfold s_tutorref01_Apart_2
      rw [br_pos (by omega)]
      rfl
    · have e1 : (o.getD i []).take 0 ++ List.replicate (o.getD i []).length (-1000 - (i : Int)) = List.replicate (o.getD i []).length (-1000 - (i : Int)) := rfl
      rw [e1]
      have := ih (i + 1) (o.set i (List.replicate (o.getD i []).length (-1000 - (i : Int)))) (by simp; omega) (apOk_set hok (by simpa using hr)) ?_
      · exact this
      · have e2 : markF (i + 1) (o.set i (List.replicate (o.getD i []).length (-1000 - (i : Int)))) = markF i o := by
          refine rows_ext (by simp [markF_len]) fun j hj => ?_
          rw [markF_len, List.length_set] at hj
          rw [markF_get (by simpa using hj), markF_get hj, getD_setL]
          by_cases c1 : i = j
          · subst c1
            rw [if_neg (by omega), if_pos ⟨rfl, hio⟩, if_pos (Nat.le_refl _)]
          · rw [if_neg (show ¬ (i = j ∧ i < o.length) from fun h => c1 h.1)]
            by_cases c2 : i ≤ j
            · rw [if_pos c2, if_pos (by omega)]
            · rw [if_neg c2, if_neg (by omega)]
        rw [e2]
        exact h

theorem ap_grow {o : List (List Int)} {i : Nat} (hi : i < o.length) (hok : apOk o) : ∀ (e k n : Nat), k + e = 6 → n ≤ 17592186044400 + k → 1 ≤ k → Reach (fun m => (run_tutorref01_Apart K0 m).2.2.1 ((i : Int) + 1) o) v →
    Reach (fun m => (run_tutorref01_Apart K0 m).2.2.2.2.2.1 (i : Int) (k : Int) o i n) v := by
  intro e
  have hs : o.length < 4611686018427387904 := hok.1
  induction e with
  | zero =>
    intro k n hk hn h1 h
    refine .step (fun m => ?_) h
    dsimp only [run_tutorref01_Apart]
    unfold s_tutorref01_Apart_13b
    rw [br_neg (by omega), wr _ (by omega) (by omega)]
  | succ e ih =>
    intro k n hk hn h1 h
    refine .step (fun m => ?_) (ih (k + 1) (n + 1) (by omega) (by omega) (by omega) h)
    dsimp only [run_tutorref01_Apart]
    unfold s_tutorref01_Apart_13b
    rw [br_pos (by omega), List.length_singleton, br_pos (by simp [lim]; omega), wr _ (by omega) (by omega)]
    rfl

theorem ap_ext {o : List (List Int)} (hok : apOk o) : ∀ (d i : Nat), i + d = o.length → Reach (fun m => (run_tutorref01_Apart K0 m).2.2.2.2.1 0 o) v → Reach (fun m => (run_tutorref01_Apart K0 m).2.2.1 (i : Int) o) v := by
  intro d
  have hs : o.length < 4611686018427387904 := hok.1
  induction d with
  | zero =>
    intro i hi h
    refine .step (fun m => ?_) h
    dsimp only [run_tutorref01_Apart]
    unfold s_tutorref01_Apart_9
    rw [br_neg (by omega)]
  | succ d ih =>
    intro i hi h
    have hr := apOk_row hok (show i < o.length by omega)
    have h2 := ih (i + 1) (by omega) h
    refine .step (G := fun m => (run_tutorref01_Apart K0 m).2.2.2.1 (i : Int) i 0 o) (fun m => ?_) (.step (fun m => ?_) (ap_grow K0 (show i < o.length by omega) hok 5 1 ((o.getD i []).length + 1) (by omega) (by omega) (by omega) h2))
    · dsimp only [run_tutorref01_Apart]
      unfold s_tutorref01_Apart_9
      rw [br_pos (by omega), br_pos (by omega), Int.toNat_natCast]
    · dsimp only [run_tutorref01_Apart]
      unfold s_tutorref01_Apart_13a
      rw [br_pos (by omega), List.length_singleton, br_pos (by show ((o.getD i []).length + 1) * 8 ≤ 140737488355328; omega), wr _ (by omega) (by omega)]
      rfl

theorem ap_row {o : List (List Int)} (hok : apOk o) {i : Nat} (hi : i < o.length) (hm : ∀ x ∈ o.getD i [], x = -1000 - (i : Int)) : ∀ (e k : Nat), k + e = (o.getD i []).length → Reach (fun m => (run_tutorref01_Apart K0 m).2.2.2.2.1 ((i : Int) + 1) o) v →
    Reach (fun m => (run_tutorref01_Apart K0 m).2.2.2.2.2.2 (i : Int) (k : Int) o) v := by
  intro e
  have hs : o.length < 4611686018427387904 := hok.1
  have hr := apOk_row hok hi
  induction e with
  | zero =>
    intro k hk h
    refine .step (fun m => ?_) h
    dsimp only [run_tutorref01_Apart]
    unfold s_tutorref01_Apart_20
    rw [br_pos (by omega), Int.toNat_natCast, br_neg (by omega), wr _ (by omega) (by omega)]
  | succ e ih =>
    intro k hk h
    refine .step (fun m => ?_) (ih (k + 1) (by omega) h)
    dsimp only [run_tutorref01_Apart]
    unfold s_tutorref01_Apart_20
    have hx : (o.getD i []).getD k 0 = -1000 - (i : Int) := by
      rw [getD_of 0 (by omega)]
      exact hm _ (List.getElem_mem _)
    rw [br_pos (by omega), Int.toNat_natCast, br_pos (by omega), br_pos (by omega), br_pos (by omega), Int.toNat_natCast, hx, wr (-1000 - (i : Int)) (by omega) (by omega), br_ne' rfl, wr _ (by omega) (by omega)]
    rfl

theorem ap_look {o : List (List Int)} (hok : apOk o) (hm : ∀ i, i < o.length → ∀ x ∈ o.getD i [], x = -1000 - (i : Int)) : ∀ (d i : Nat), i + d = o.length → Reach (fun m => (run_tutorref01_Apart K0 m).2.2.2.2.1 (i : Int) o) (K0 true o) := by
  intro d
  have hs : o.length < 4611686018427387904 := hok.1
  induction d with
  | zero =>
    intro i hi
    refine .now fun m => ?_
    dsimp only [run_tutorref01_Apart]
    unfold s_tutorref01_Apart_17
    rw [br_neg (by omega)]
  | succ d ih =>
    intro i hi
    refine .step (fun m => ?_) (ap_row K0 hok (show i < o.length by omega) (hm i (by omega)) (o.getD i []).length 0 (by omega) (ih (i + 1) (by omega)))
    dsimp only [run_tutorref01_Apart]
    unfold s_tutorref01_Apart_17
    rw [br_pos (by omega)]
    rfl
end

theorem ok_tutorref01_Apart {R : Type} (o0 : List (List Int)) (K0 : Bool → (List (List Int)) → Option R) {r : R} (h : l_tutorref01_Apart o0 K0 = some r) : ∃ fuel, e_tutorref01_Apart (run_tutorref01_Apart K0 fuel).1 (run_tutorref01_Apart K0 fuel).2.1 (run_tutorref01_Apart K0 fuel).2.2.1 (run_tutorref01_Apart K0 fuel).2.2.2.1 (run_tutorref01_Apart K0 fuel).2.2.2.2.1 (run_tutorref01_Apart K0 fuel).2.2.2.2.2.1 (run_tutorref01_Apart K0 fuel).2.2.2.2.2.2 K0 o0 = some r := by
  unfold l_tutorref01_Apart at h
  rcases bi_some h with ⟨hs, h⟩ | ⟨_, h⟩
  · have hok : apOk o0 := of_decide_eq_true hs
    rw [← h]
    unfold e_tutorref01_Apart
    have hok2 : apOk (markF 0 o0) := by
      refine ⟨by unfold short; rw [markF_len]; exact hok.1, fun x hx => ?_⟩
      obtain ⟨j, hj, rfl⟩ := List.getElem_of_mem hx
      rw [markF_len] at hj
      rw [← getD_of [] (by rw [markF_len]; exact hj), markF_get hj, if_pos (Nat.zero_le _), List.length_replicate]
      exact apOk_row hok hj
    have hm : ∀ i, i < (markF 0 o0).length → ∀ x ∈ (markF 0 o0).getD i [], x = -1000 - (i : Int) := by
      intro i hi x hx
      rw [markF_len] at hi
      rw [markF_get hi, if_pos (Nat.zero_le _)] at hx
      exact List.eq_of_mem_replicate hx
    exact (ap_mark K0 o0.length 0 o0 (by omega) hok (ap_ext K0 hok2 (markF 0 o0).length 0 (by omega) (ap_look K0 hok2 hm (markF 0 o0).length 0 (by omega)))).get
  · cases h

theorem apart_eq {R : Type} {o0 : List (List Int)} (h : apOk o0) (K0 : Bool → (List (List Int)) → Option R) : l_tutorref01_Apart o0 K0 = K0 true (markF 0 o0) := by
  unfold l_tutorref01_Apart
  rw [br_pos h]

/-- tutor/tutorlaw07.DifferPairs -/
def l_tutorlaw07_DifferPairs {R : Type} (m : Int) (m_1 : Int) (m_2 : Int) (m_3 : Int) (m_4 : List Int) (m_5 : List Int) (K0 : Bool → Option R) : Option R :=
  l_tutorref03_Big m m_1 m_2 m_3 m_4 m_5 14
   (fun r1 =>
    bi r1
     (l_tutorlaw07_live
      (fun r2 =>
       K0 r2))
     (l_differ_Pairs m m_1 m_2 m_3 m_4 m_5
      (fun r3 r4 =>
       l_tutorref07_Pairs m m_1 m_2 m_3 m_4 m_5
        (fun r5 r6 =>
         l_tutorref01_Lists r4 r6
          (fun r7 =>
           bi r7
            (l_tutorlaw07_num r3
             (fun r8 =>
              bi (r8 == r5)
               (l_tutorref01_Apart r4
                (fun r9 r10 =>
                 bi r9
                  (l_tutorlaw07_live
                   (fun r11 =>
                    K0 r11))
                  (K0 false)))
               (K0 false)))
            (K0 false))))))

theorem law_tutorlaw07_DifferPairs {R : Type} (k K O N : Int) (nx ou : List Int) (K0 : Bool → Option R) (hk : inI k) (hK : inI K) (hO : inI O) (hN : inI N) (hn : okW nx) (ho : okW ou) :
    l_tutorlaw07_DifferPairs k K O N nx ou K0 = K0 true := by
  unfold l_tutorlaw07_DifferPairs
  rcases big_cases k K O N nx ou 14 _ with h | ⟨_, h1, h2, h⟩
  · rw [h, br_tt, live07]
  · rw [h, br_ff]
    have o1 : okL nx := hn.okL (by unfold short; omega)
    have o2 : okL ou := ho.okL (by unfold short; omega)
    have P := pairsS_pr (k := k) (K := K) (O := O) (N := N) (nx := nx) (ou := ou)
    rw [pairs_eq o1 o2]
    try dsimp only
    rw [rpairs_eq o1.1 o2.1]
    try dsimp only
    rw [lists_eq (P.short (by omega))]
    try dsimp only [l_tutorlaw07_num]
    rw [decide_eq_true rfl, br_tt, br_eq rfl, apart_eq ⟨(P.short (by omega)).1, fun w hw => by have := P.len w hw; omega⟩]
    try dsimp only
    rw [br_tt, live07]

end
end Go.Ev
