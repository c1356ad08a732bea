/- Functions of the program, as trees of tests over numbers and lists; no program in sight. -/
import Derived.Test.YtfbdgjepflokpaaEvCanon
namespace Go.Ev
noncomputable section
set_option linter.unusedVariables false
set_option linter.unusedSimpArgs false
set_option maxRecDepth 100000
set_option maxHeartbeats 4000000

/-- tutor/tutorref03.Big -/
def l_tutorref03_Big {R : Type} (m : Int) (m_1 : Int) (m_2 : Int) (m_3 : Int) (m_4 : List Int) (m_5 : List Int) (states : Int) (K0 : Bool → Option R) : Option R :=
  bi (decide (m_3 > states))
   (K0 true)
   (bi (decide ((m_4.length : Int) > 70000))
    (K0 true)
    (K0 (decide ((m_5.length : Int) > 70000))))

theorem big_cases {R : Type} (k K O N : Int) (nx ou : List Int) (states : Int) (K0 : Bool → Option R) :
    (l_tutorref03_Big k K O N nx ou states K0 = K0 true) ∨ (N ≤ states ∧ nx.length ≤ 70000 ∧ ou.length ≤ 70000 ∧ l_tutorref03_Big k K O N nx ou states K0 = K0 false) := by
  unfold l_tutorref03_Big
  by_cases h1 : N > states
  · exact .inl (by rw [br_pos h1])
  rw [br_neg h1]
  by_cases h2 : (nx.length : Int) > 70000
  · exact .inl (by rw [br_pos h2])
  rw [br_neg h2]
  by_cases h3 : (ou.length : Int) > 70000
  · exact .inl (by rw [decide_eq_true h3])
  · exact .inr ⟨by omega, by omega, by omega, by rw [decide_eq_false h3]⟩

/-- tutor/machine.says -/
def l_machine_says {R : Type} (m : Int) (m_1 : Int) (m_2 : Int) (m_3 : Int) (m_4 : List Int) (m_5 : List Int) (K0 : Int → Option R) : Option R :=
  bi (m == 1)
   (K0 m_3)
   (K0 (IntKind.i64.wrap (m_3 * m_1)))

/-- tutor/machine.head -/
def l_machine_head {R : Type} (m : Int) (m_1 : Int) (m_2 : Int) (m_3 : Int) (m_4 : List Int) (m_5 : List Int) (K0 : Int → Option R) : Option R :=
  bi (m != 1)
   (bi (m != 2)
    (K0 30)
    (bi (decide (m_1 < 1))
     (K0 1)
     (bi (decide (m_1 > 64))
      (K0 1)
      (bi (m == 1)
       (bi (m_2 != 2)
        (K0 33)
        (bi (decide (m_2 < 1))
         (K0 33)
         (bi (decide (m_2 > 64))
          (K0 33)
          (bi (decide (m_3 < 1))
           (K0 3)
           (bi (decide (m_3 > 1024))
            (K0 3)
            (bi ((m_4.length : Int) != (IntKind.i64.wrap (m_3 * m_1)))
             (K0 31)
             (l_machine_says m m_1 m_2 m_3 m_4 m_5
              (fun r1 =>
               bi ((m_5.length : Int) != r1)
                (K0 31)
                (K0 0)))))))))
       (bi (decide (m_2 < 1))
        (K0 33)
        (bi (decide (m_2 > 64))
         (K0 33)
         (bi (decide (m_3 < 1))
          (K0 3)
          (bi (decide (m_3 > 1024))
           (K0 3)
           (bi ((m_4.length : Int) != (IntKind.i64.wrap (m_3 * m_1)))
            (K0 31)
            (l_machine_says m m_1 m_2 m_3 m_4 m_5
             (fun r2 =>
              bi ((m_5.length : Int) != r2)
               (K0 31)
               (K0 0))))))))))))
   (bi (decide (m_1 < 1))
    (K0 1)
    (bi (decide (m_1 > 64))
     (K0 1)
     (bi (m == 1)
      (bi (m_2 != 2)
       (K0 33)
       (bi (decide (m_2 < 1))
        (K0 33)
        (bi (decide (m_2 > 64))
         (K0 33)
         (bi (decide (m_3 < 1))
          (K0 3)
          (bi (decide (m_3 > 1024))
           (K0 3)
           (bi ((m_4.length : Int) != (IntKind.i64.wrap (m_3 * m_1)))
            (K0 31)
            (l_machine_says m m_1 m_2 m_3 m_4 m_5
             (fun r3 =>
              bi ((m_5.length : Int) != r3)
               (K0 31)
               (K0 0)))))))))
      (bi (decide (m_2 < 1))
       (K0 33)
       (bi (decide (m_2 > 64))
        (K0 33)
        (bi (decide (m_3 < 1))
         (K0 3)
         (bi (decide (m_3 > 1024))
          (K0 3)
          (bi ((m_4.length : Int) != (IntKind.i64.wrap (m_3 * m_1)))
           (K0 31)
           (l_machine_says m m_1 m_2 m_3 m_4 m_5
            (fun r4 =>
             bi ((m_5.length : Int) != r4)
              (K0 31)
              (K0 0)))))))))))

theorem head_eq {R : Type} (k K O N : Int) (nx ou : List Int) (K0 : Int → Option R) : l_machine_head k K O N nx ou K0 = K0 (headS k K O N nx ou) := by
  unfold l_machine_head l_machine_says headS
  simp only [br_if, bne_iff_ne, beq_iff_eq, decide_eq_true_eq, ne_eq]
  by_cases hb : (1 ≤ N ∧ N ≤ 1024) ∧ 1 ≤ K ∧ K ≤ 64
  · have := mulK hb
    rw [wr (N * K) (by omega) (by omega)]
    repeat' (refine ite_l (fun _ => ?_) (fun _ => ?_))
    all_goals
      refine congrArg K0 ?_
      repeat' (refine ite_r (fun _ => ?_) (fun _ => ?_))
      all_goals omega
  · repeat' (refine ite_l (fun _ => ?_) (fun _ => ?_))
    all_goals
      refine congrArg K0 ?_
      repeat' (refine ite_r (fun _ => ?_) (fun _ => ?_))
      all_goals omega

/-- tutor/machine.beyond -/
def s_machine_beyond_2 {R : Type} (g45_2 : (List Int) → Int → Int → Int → Option R) (K0 : Int → Option R) (l : List Int) (n : Int) (x7 : Int) (x8 : Int) : Option R :=
  bi (decide (x8 < x7))
   (bi (decide (0 ≤ x8 ∧ x8 < ((l.length : Nat) : Int)))
    (bi (decide ((IntKind.u64.wrap (l.getD x8.toNat 0)) ≥ (IntKind.u64.wrap n)))
     (K0 x8)
     (g45_2 l n x7 (IntKind.i64.wrap (x8 + 1))))
    none)
   (K0 (-1))

/-- tutor/machine.beyond -/
def e_machine_beyond {R : Type} (g45_2 : (List Int) → Int → Int → Int → Option R) (K0 : Int → Option R) (l : List Int) (n : Int) : Option R :=
  g45_2 l n (l.length : Int) 0

def run_machine_beyond {R : Type} (K0 : Int → Option R) : Nat → (List Int) → Int → Int → Int → Option R
  | 0 => fun _ _ _ _ => none
  | n + 1 => s_machine_beyond_2 (run_machine_beyond K0 n) K0

def l_machine_beyond {R : Type} (l : List Int) (n : Int) (K0 : Int → Option R) : Option R := bi (decide (short l)) (K0 (beyondS n l)) none

theorem ok_machine_beyond {R : Type} (l : List Int) (n : Int) (K0 : Int → Option R) {r : R} (h : l_machine_beyond l n K0 = some r) : ∃ fuel, e_machine_beyond (run_machine_beyond K0 fuel) K0 l n = some r := by
  unfold l_machine_beyond at h
  rcases bi_some h with ⟨hs, h⟩ | ⟨_, h⟩
  · have hs : l.length < 4611686018427387904 := of_decide_eq_true hs
    refine ⟨l.length + 1, ?_⟩
    rw [← h]
    have key := scan_all (F := fun m i => run_machine_beyond K0 m l n (l.length : Int) (i : Int)) (bad n) (l := l) (A := fun i => K0 i) (B := K0 (-1))
      (fun m => by
        show s_machine_beyond_2 _ _ _ _ _ _ = _
        unfold s_machine_beyond_2
        rw [br_neg (by omega)])
      (fun m i hi => by
        show s_machine_beyond_2 _ _ _ _ _ _ = _
        unfold s_machine_beyond_2
        rw [br_pos (by omega), br_pos (by omega), br_if, Int.toNat_natCast, getD_of 0 hi, wr _ (by omega) (by omega)]
        rfl)
    unfold e_machine_beyond beyondS
    refine key.trans ?_
    cases findP (bad n) l <;> rfl
  · cases h

/-- tutor/machine.Check -/
def l_machine_Check {R : Type} (m : Int) (m_1 : Int) (m_2 : Int) (m_3 : Int) (m_4 : List Int) (m_5 : List Int) (K0 : Int → Int → Option R) : Option R :=
  l_machine_head m m_1 m_2 m_3 m_4 m_5
   (fun r1 =>
    bi (r1 != 0)
     (K0 0 r1)
     (l_machine_beyond m_4 m_3
      (fun r2 =>
       bi (decide (r2 ≥ 0))
        (K0 r2 32)
        (l_machine_beyond m_5 m_2
         (fun r3 =>
          bi (decide (r3 ≥ 0))
           (K0 r3 33)
           (K0 0 0))))))

theorem check_eq {R : Type} (k K O N : Int) (nx ou : List Int) (h1 : short nx) (h2 : short ou) (K0 : Int → Int → Option R) :
    l_machine_Check k K O N nx ou K0 = K0 (checkS k K O N nx ou).1 (checkS k K O N nx ou).2 := by
  unfold l_machine_Check checkS l_machine_beyond beyondS
  rw [head_eq]
  by_cases h : headS k K O N nx ou = 0
  · rw [br_ne' h, if_neg (by simpa using h), br_pos h1]
    cases hf : findP (bad N) nx with
    | some i => simp only [br_pos (show ((i : Nat) : Int) ≥ 0 by omega)]
    | none =>
      simp only [br_neg (show ¬ ((-1 : Int) ≥ 0) by omega), br_pos h2]
      cases hg : findP (bad O) ou with
      | some i => simp only [br_pos (show ((i : Nat) : Int) ≥ 0 by omega)]
      | none => simp only [br_neg (show ¬ ((-1 : Int) ≥ 0) by omega)]
  · rw [br_ne h, if_pos (by simpa using h)]

/-- tutor/differ.fit -/
def s_differ_fit_2 {R : Type} (g27_2 : Int → Int → Int → Int → Int → Int → (List Int) → (List Int) → Int → Int → Int → Int → (List Int) → (List Int) → (List (Int × (Int × (Int × (Int × (List Int × List Int)))))) → Option R) (K0 : Int → Option R) (x12 : Int) (x13 : Int) (o0 : Int) (o0_1 : Int) (o0_2 : Int) (o0_3 : Int) (o0_4 : List Int) (o0_5 : List Int) (o1 : Int) (o1_1 : Int) (o1_2 : Int) (o1_3 : Int) (o1_4 : List Int) (o1_5 : List Int) (o2 : List (Int × (Int × (Int × (Int × (List Int × List Int)))))) : Option R :=
  bi (decide (x13 < x12))
   (bi (decide (0 ≤ x13 ∧ x13 < ((o2.length : Nat) : Int)))
    (l_machine_Check ((o2.getD x13.toNat (0, (0, (0, (0, ([], [])))))).1) (((o2.getD x13.toNat (0, (0, (0, (0, ([], [])))))).2).1) ((((o2.getD x13.toNat (0, (0, (0, (0, ([], [])))))).2).2).1) (((((o2.getD x13.toNat (0, (0, (0, (0, ([], [])))))).2).2).2).1) ((((((o2.getD x13.toNat (0, (0, (0, (0, ([], [])))))).2).2).2).2).1) ((((((o2.getD x13.toNat (0, (0, (0, (0, ([], [])))))).2).2).2).2).2)
     (fun r1 r2 =>
      bi (r2 != 0)
       (K0 r2)
       (g27_2 x12 (IntKind.i64.wrap (x13 + 1)) o0 o0_1 o0_2 o0_3 o0_4 o0_5 o1 o1_1 o1_2 o1_3 o1_4 o1_5 o2)))
    none)
   (bi (o0 != o1)
    (K0 30)
    (bi (o0_1 != o1_1)
     (K0 1)
     (bi (o0_2 != o1_2)
      (K0 33)
      (K0 0))))

/-- tutor/differ.fit -/
def e_differ_fit {R : Type} (g27_2 : Int → Int → Int → Int → Int → Int → (List Int) → (List Int) → Int → Int → Int → Int → (List Int) → (List Int) → (List (Int × (Int × (Int × (Int × (List Int × List Int)))))) → Option R) (K0 : Int → Option R) (a : Int) (a_1 : Int) (a_2 : Int) (a_3 : Int) (a_4 : List Int) (a_5 : List Int) (b : Int) (b_1 : Int) (b_2 : Int) (b_3 : Int) (b_4 : List Int) (b_5 : List Int) : Option R :=
  g27_2 ([(a, (a_1, (a_2, (a_3, (a_4, a_5))))), (b, (b_1, (b_2, (b_3, (b_4, b_5)))))].length : Int) 0 a a_1 a_2 a_3 a_4 a_5 b b_1 b_2 b_3 b_4 b_5 [(a, (a_1, (a_2, (a_3, (a_4, a_5))))), (b, (b_1, (b_2, (b_3, (b_4, b_5)))))]

def run_differ_fit {R : Type} (K0 : Int → Option R) : Nat → Int → Int → Int → Int → Int → Int → (List Int) → (List Int) → Int → Int → Int → Int → (List Int) → (List Int) → (List (Int × (Int × (Int × (Int × (List Int × List Int)))))) → Option R
  | 0 => fun _ _ _ _ _ _ _ _ _ _ _ _ _ _ _ => none
  | n + 1 => s_differ_fit_2 (run_differ_fit K0 n) K0

/-- Whether they may be held against one another. -/
def fitS (k K O N : Int) (nx ou : List Int) (k' K' O' N' : Int) (nx' ou' : List Int) : Int :=
  if (checkS k K O N nx ou).2 ≠ 0 then (checkS k K O N nx ou).2 else if (checkS k' K' O' N' nx' ou').2 ≠ 0 then (checkS k' K' O' N' nx' ou').2 else
    if k ≠ k' then 30 else if K ≠ K' then 1 else if O ≠ O' then 33 else 0

def l_differ_fit {R : Type} (a : Int) (a_1 : Int) (a_2 : Int) (a_3 : Int) (a_4 : List Int) (a_5 : List Int) (b : Int) (b_1 : Int) (b_2 : Int) (b_3 : Int) (b_4 : List Int) (b_5 : List Int) (K0 : Int → Option R) : Option R :=
  bi (decide ((short a_4 ∧ short a_5) ∧ short b_4 ∧ short b_5)) (K0 (fitS a a_1 a_2 a_3 a_4 a_5 b b_1 b_2 b_3 b_4 b_5)) none

theorem two0 {α : Type} (x y d : α) : [x, y].getD (0 : Int).toNat d = x := rfl
theorem two1 {α : Type} (x y d : α) : [x, y].getD (0 + 1 : Int).toNat d = y := rfl

theorem ok_differ_fit {R : Type} (a : Int) (a_1 : Int) (a_2 : Int) (a_3 : Int) (a_4 : List Int) (a_5 : List Int) (b : Int) (b_1 : Int) (b_2 : Int) (b_3 : Int) (b_4 : List Int) (b_5 : List Int) (K0 : Int → Option R) {r : R} (h : l_differ_fit a a_1 a_2 a_3 a_4 a_5 b b_1 b_2 b_3 b_4 b_5 K0 = some r) : ∃ fuel, e_differ_fit (run_differ_fit K0 fuel) K0 a a_1 a_2 a_3 a_4 a_5 b b_1 b_2 b_3 b_4 b_5 = some r := by
  unfold l_differ_fit at h
  rcases bi_some h with ⟨hs, h⟩ | ⟨_, h⟩
  · obtain ⟨⟨h1, h2⟩, h3, h4⟩ := of_decide_eq_true hs
    refine ⟨3, ?_⟩
    rw [← h]
    unfold e_differ_fit fitS
    show s_differ_fit_2 (run_differ_fit K0 2) _ _ _ _ _ _ _ _ _ _ _ _ _ _ _ _ = _
    unfold s_differ_fit_2
    rw [br_pos (by simp), br_pos (by simp)]
    simp only [two0]
    rw [check_eq _ _ _ _ _ _ h1 h2]
    by_cases c1 : (checkS a a_1 a_2 a_3 a_4 a_5).2 = 0
    · rw [br_ne' c1, if_neg (by simpa using c1), wr _ (by omega) (by omega)]
      show s_differ_fit_2 (run_differ_fit K0 1) _ _ _ _ _ _ _ _ _ _ _ _ _ _ _ _ = _
      unfold s_differ_fit_2
      rw [br_pos (by simp), br_pos (by simp)]
      simp only [two1]
      rw [check_eq _ _ _ _ _ _ h3 h4]
      by_cases c2 : (checkS b b_1 b_2 b_3 b_4 b_5).2 = 0
      · rw [br_ne' c2, if_neg (by simpa using c2), wr _ (by omega) (by omega)]
        show s_differ_fit_2 (run_differ_fit K0 0) _ _ _ _ _ _ _ _ _ _ _ _ _ _ _ _ = _
        unfold s_differ_fit_2
        rw [br_neg (by simp)]
        simp only [br_if, bne_iff_ne, ne_eq]
        repeat' (refine ite_l (fun _ => ?_) (fun _ => ?_))
        all_goals
          refine congrArg K0 ?_
          repeat' (refine ite_r (fun _ => ?_) (fun _ => ?_))
          all_goals omega
      · rw [br_ne c2, if_pos (by simpa using c2)]
    · rw [br_ne c1, if_pos (by simpa using c1)]
  · cases h

theorem fit_eq {R : Type} {k K O N : Int} {nx ou : List Int} {k' K' O' N' : Int} {nx' ou' : List Int} (h1 : okL nx) (h2 : okL ou) (h3 : okL nx') (h4 : okL ou') (K0 : Int → Option R) :
    l_differ_fit k K O N nx ou k' K' O' N' nx' ou' K0 = K0 (fitS k K O N nx ou k' K' O' N' nx' ou') := by
  unfold l_differ_fit
  rw [br_pos ⟨⟨h1.1, h2.1⟩, h3.1, h4.1⟩]

/-- slices.Reverse[[]int,int] -/
def s_slices_Reverse_int_int_1 {R : Type} (g54_1 : Int → Int → (List Int) → Option R) (K0 : (List Int) → Option R) (i : Int) (j : Int) (o0 : List Int) : Option R :=
  bi (decide (i < j))
   (bi (decide (0 ≤ j ∧ j < ((o0.length : Nat) : Int)))
    (bi (decide (0 ≤ i ∧ i < ((o0.length : Nat) : Int)))
     (bi (decide (0 ≤ i ∧ i < ((o0.length : Nat) : Int)))
      (bi (decide (0 ≤ j ∧ j < (((o0.set i.toNat (o0.getD j.toNat 0)).length : Nat) : Int)))
       (g54_1 (IntKind.i64.wrap (i + 1)) (IntKind.i64.wrap (j - 1)) ((o0.set i.toNat (o0.getD j.toNat 0)).set j.toNat (o0.getD i.toNat 0)))
       none)
      none)
     none)
    none)
   (K0 o0)

/-- slices.Reverse[[]int,int] -/
def e_slices_Reverse_int_int {R : Type} (g54_1 : Int → Int → (List Int) → Option R) (K0 : (List Int) → Option R) (o0 : List Int) : Option R :=
  g54_1 0 (IntKind.i64.wrap ((o0.length : Int) - 1)) o0

def run_slices_Reverse_int_int {R : Type} (K0 : (List Int) → Option R) : Nat → Int → Int → (List Int) → Option R
  | 0 => fun _ _ _ => none
  | n + 1 => s_slices_Reverse_int_int_1 (run_slices_Reverse_int_int K0 n) K0

def l_slices_Reverse_int_int {R : Type} (o0 : List Int) (K0 : (List Int) → Option R) : Option R := bi (decide (short o0)) (K0 o0.reverse) none

/-- Both ends turned, up to a place. -/
def revA (w : List Int) (a : Nat) : List Int := (List.range w.length).map fun t => if t < a ∨ w.length - a ≤ t then w.getD (w.length - 1 - t) 0 else w.getD t 0

theorem revA_len (w : List Int) (a : Nat) : (revA w a).length = w.length := by simp [revA]
theorem revA_get (w : List Int) (a t : Nat) (h : t < w.length) : (revA w a).getD t 0 = if t < a ∨ w.length - a ≤ t then w.getD (w.length - 1 - t) 0 else w.getD t 0 := by
  unfold revA
  rw [getD_of 0 (by simpa using h), List.getElem_map, List.getElem_range]
theorem revA_ext {w u : List Int} {a : Nat} (hl : u.length = w.length) (h : ∀ t, t < w.length → u.getD t 0 = if t < a ∨ w.length - a ≤ t then w.getD (w.length - 1 - t) 0 else w.getD t 0) : u = revA w a := by
  refine List.ext_getElem (by rw [hl, revA_len]) fun t h1 h2 => ?_
  have e1 := h t (by omega)
  rw [getD_of 0 h1] at e1
  rw [e1, ← getD_of 0 h2, revA_get w a t (by omega)]

theorem getD_set (l : List Int) (i t : Nat) (x : Int) : (l.set i x).getD t 0 = if i = t ∧ i < l.length then x else l.getD t 0 := by
  rw [List.getD_eq_getElem?_getD, List.getElem?_set, List.getD_eq_getElem?_getD]
  by_cases h : i = t
  · subst h
    by_cases h2 : i < l.length
    · simp [h2]
    · simp [h2]
  · simp [h]

theorem ok_slices_Reverse_int_int {R : Type} (o0 : List Int) (K0 : (List Int) → Option R) {r : R} (h : l_slices_Reverse_int_int o0 K0 = some r) : ∃ fuel, e_slices_Reverse_int_int (run_slices_Reverse_int_int K0 fuel) K0 o0 = some r := by
  unfold l_slices_Reverse_int_int at h
  rcases bi_some h with ⟨hs, h⟩ | ⟨_, h⟩
  · have hs : o0.length < 4611686018427387904 := of_decide_eq_true hs
    refine ⟨o0.length + 1, ?_⟩
    rw [← h]
    have key : ∀ (d a : Nat), a + d = o0.length → run_slices_Reverse_int_int K0 (d + 1) (a : Int) ((o0.length : Int) - 1 - (a : Int)) (revA o0 a) = K0 o0.reverse := by
      have fin : ∀ a : Nat, o0.length ≤ 2 * a + 1 → revA o0 a = o0.reverse := by
        intro a ha
        symm
        refine revA_ext (by simp) fun t ht => ?_
        have e : o0.reverse.getD t 0 = o0.getD (o0.length - 1 - t) 0 := by
          rw [getD_of 0 (by simpa using ht), List.getElem_reverse, getD_of 0 (by omega)]
        rw [e]
        split
        · rfl
        · have : o0.length - 1 - t = t := by omega
          rw [this]
      intro d
      induction d with
      | zero =>
        intro a ha
        show s_slices_Reverse_int_int_1 _ _ _ _ _ = _
        unfold s_slices_Reverse_int_int_1
        rw [br_neg (by omega), fin a (by omega)]
      | succ d ih =>
        intro a ha
        show s_slices_Reverse_int_int_1 _ _ _ _ _ = _
        unfold s_slices_Reverse_int_int_1
        by_cases c : (a : Int) < (o0.length : Int) - 1 - (a : Int)
        · have e1 : ((o0.length : Int) - 1 - (a : Int)).toNat = o0.length - 1 - a := by omega
          rw [br_pos c, revA_len, List.length_set, revA_len, br_pos (by omega), br_pos (by omega), br_pos (by omega), br_pos (by omega), wr _ (by omega) (by omega), wr _ (by omega) (by omega), Int.toNat_natCast, e1]
          have e2 : ((revA o0 a).set a ((revA o0 a).getD (o0.length - 1 - a) 0)).set (o0.length - 1 - a) ((revA o0 a).getD a 0) = revA o0 (a + 1) := by
            refine revA_ext (by simp [revA_len]) fun t ht => ?_
            rw [getD_set, getD_set, List.length_set, revA_len, revA_get _ _ _ ht, revA_get _ _ _ (show a < o0.length by omega), revA_get _ _ _ (show o0.length - 1 - a < o0.length by omega)]
            by_cases c1 : o0.length - 1 - a = t
            · rw [if_pos ⟨c1, by omega⟩, if_neg (by omega), if_pos (by omega)]
              congr 1
              omega
            · rw [if_neg (by omega)]
              by_cases c2 : a = t
              · rw [if_pos ⟨c2, by omega⟩, if_neg (by omega), if_pos (by omega), c2]
              · rw [if_neg (by omega)]
                by_cases c3 : t < a ∨ o0.length - a ≤ t
                · rw [if_pos c3, if_pos (by omega)]
                · rw [if_neg c3, if_neg (by omega)]
          rw [e2]
          have e3 : (o0.length : Int) - 1 - (a : Int) - 1 = (o0.length : Int) - 1 - ((a + 1 : Nat) : Int) := by omega
          rw [e3]
          exact ih (a + 1) (by omega)
        · rw [br_neg c, fin a (by omega)]
    have e0 : revA o0 0 = o0 := by
      symm
      refine revA_ext rfl fun t ht => ?_
      rw [if_neg (by omega)]
    have := key o0.length 0 (by omega)
    rw [e0] at this
    unfold e_slices_Reverse_int_int
    rw [wr _ (by omega) (by omega)]
    simpa using this
  · cases h

/-- tutor/differ.back -/
def s_differ_back_2 {R : Type} (g41_2 : (List ((Int × Int) × ((Int × Int) × Int))) → Int → Int → Int → Int → (List Int) → Option R) (K0 : (List ((Int × Int) × ((Int × Int) × Int))) → (List Int) → Option R) (o0 : List ((Int × Int) × ((Int × Int) × Int))) (o1 : Int) (o1_1 : Int) (o2 : Int) (o2_1 : Int) (o3 : List Int) : Option R :=
  bi (!(eqS (.pr (.int .i64) (.int .i64)) (o2, o2_1) (o1, o1_1)))
   (bi (decide ((o3.length + [(mgetD (.pr (.int .i64) (.int .i64)) (.pr (.pr (.int .i64) (.int .i64)) (.int .i64)) o0 (o2, o2_1)).2].length) * 8 ≤ lim))
    (g41_2 o0 o1 o1_1 (((mgetD (.pr (.int .i64) (.int .i64)) (.pr (.pr (.int .i64) (.int .i64)) (.int .i64)) o0 (o2, o2_1)).1).1) (((mgetD (.pr (.int .i64) (.int .i64)) (.pr (.pr (.int .i64) (.int .i64)) (.int .i64)) o0 (o2, o2_1)).1).2) (o3 ++ [(mgetD (.pr (.int .i64) (.int .i64)) (.pr (.pr (.int .i64) (.int .i64)) (.int .i64)) o0 (o2, o2_1)).2]))
    none)
   (l_slices_Reverse_int_int o3
    (fun r1 =>
     K0 o0 r1))

/-- tutor/differ.back -/
def e_differ_back {R : Type} (g41_2 : (List ((Int × Int) × ((Int × Int) × Int))) → Int → Int → Int → Int → (List Int) → Option R) (K0 : (List ((Int × Int) × ((Int × Int) × Int))) → (List Int) → Option R) (start : Int) (start_1 : Int) (p : Int) (p_1 : Int) (o0 : List ((Int × Int) × ((Int × Int) × Int))) : Option R :=
  g41_2 o0 start start_1 p p_1 ([] : List Int)

def run_differ_back {R : Type} (K0 : (List ((Int × Int) × ((Int × Int) × Int))) → (List Int) → Option R) : Nat → (List ((Int × Int) × ((Int × Int) × Int))) → Int → Int → Int → Int → (List Int) → Option R
  | 0 => fun _ _ _ _ _ _ => none
  | n + 1 => s_differ_back_2 (run_differ_back K0 n) K0

def l_differ_back {R : Type} (start : Int) (start_1 : Int) (p : Int) (p_1 : Int) (o0 : List ((Int × Int) × ((Int × Int) × Int))) (K0 : (List ((Int × Int) × ((Int × Int) × Int))) → (List Int) → Option R) : Option R :=
  bi (decide (o0.length ≤ 1000000000)) (match backF o0 (start, start_1) o0.length (p, p_1) with
    | some w => K0 o0 w
    | none => none) none

theorem back_run {R : Type} (o : Came) (s : Int × Int) (K0 : Came → (List Int) → Option R) : ∀ (n : Nat) (q : Int × Int) (w acc : List Int), backF o s n q = some w → acc.length + n ≤ 1000000000 →
    Reach (fun m => run_differ_back K0 m o s.1 s.2 q.1 q.2 acc) (K0 o (w ++ acc.reverse))
  | 0, q, w, acc, h, _ => by cases h
  | n + 1, q, w, acc, h, hl => by
    unfold backF at h
    by_cases c : q = s
    · rw [if_pos c] at h
      cases h
      refine .now fun m => ?_
      show s_differ_back_2 _ _ _ _ _ _ _ _ = _
      unfold s_differ_back_2 l_slices_Reverse_int_int
      rw [show eqS (.pr (.int .i64) (.int .i64)) (q.1, q.2) (s.1, s.2) = decide (q = s) from eqP q s, decide_eq_true c, br_pos (show short acc by unfold short; omega)]
      rfl
    · rw [if_neg c] at h
      cases hf : mfind (.pr (.int .i64) (.int .i64)) (.pr (.pr (.int .i64) (.int .i64)) (.int .i64)) q o with
      | none => rw [hf] at h; cases h
      | some v =>
        rw [hf] at h
        obtain ⟨p, x⟩ := v
        dsimp only at h
        cases hb : backF o s n p with
        | none => rw [hb] at h; cases h
        | some u =>
          rw [hb] at h
          cases h
          have ih := back_run o s K0 n p u (acc ++ [x]) hb (by simp; omega)
          rw [show u ++ [x] ++ acc.reverse = u ++ (acc ++ [x]).reverse by simp]
          refine .step (fun m => ?_) ih
          show s_differ_back_2 _ _ _ _ _ _ _ _ = _
          unfold s_differ_back_2
          have e : mgetD (.pr (.int .i64) (.int .i64)) (.pr (.pr (.int .i64) (.int .i64)) (.int .i64)) o (q.1, q.2) = (p, x) := by
            unfold mgetD
            rw [show mfind (.pr (.int .i64) (.int .i64)) (.pr (.pr (.int .i64) (.int .i64)) (.int .i64)) (q.1, q.2) o = some (p, x) from hf]
            rfl
          rw [show eqS (.pr (.int .i64) (.int .i64)) (q.1, q.2) (s.1, s.2) = decide (q = s) from eqP q s, decide_eq_false c, e]
          rw [show (!false) = true from rfl, br_tt, br_pos (by
            show (acc.length + 1) * 8 ≤ 140737488355328
            omega)]

theorem ok_differ_back {R : Type} (start : Int) (start_1 : Int) (p : Int) (p_1 : Int) (o0 : List ((Int × Int) × ((Int × Int) × Int))) (K0 : (List ((Int × Int) × ((Int × Int) × Int))) → (List Int) → Option R) {r : R} (h : l_differ_back start start_1 p p_1 o0 K0 = some r) : ∃ fuel, e_differ_back (run_differ_back K0 fuel) K0 start start_1 p p_1 o0 = some r := by
  unfold l_differ_back at h
  rcases bi_some h with ⟨hs, h⟩ | ⟨_, h⟩
  · have hs := of_decide_eq_true hs
    cases hb : backF o0 (start, start_1) o0.length (p, p_1) with
    | none => rw [hb] at h; cases h
    | some w =>
      rw [hb] at h
      dsimp only at h
      rw [← h]
      obtain ⟨n, hn⟩ := (back_run o0 (start, start_1) K0 _ _ w [] hb (by simpa using hs)).get
      exact ⟨n, by simpa [e_differ_back] using hn⟩
  · cases h

theorem back_eq {R : Type} {s : Int × Int} {o : Came} {L : List PW} (W : Ways s o L) {e : PW} (he : e ∈ L) (hl : L.length ≤ 1000000000) (K0 : Came → List Int → Option R) :
    l_differ_back s.1 s.2 e.1.1 e.1.2 o K0 = K0 o e.2 := by
  have hk : o.length = L.length := by simpa using congrArg List.length W.keys
  unfold l_differ_back
  rw [br_pos (by omega), hk, show backF o (s.1, s.2) L.length (e.1.1, e.1.2) = some e.2 from W.back e he]

/-- tutor/differ.search -/
def s_differ_search_9 {R : Type} (g28_9 : Int → Int → Int → Int → Int → (List Int) → (List Int) → Int → Int → Int → Int → (List Int) → (List Int) → Int → Int → (List ((Int × Int) × ((Int × Int) × Int))) → (List (Int × Int)) → Int → Int → (List Int) → Option R) (g28_13 : Int → Int → Int → Int → Int → Int → Int → (List Int) → (List Int) → Int → Int → Int → Int → (List Int) → (List Int) → Int → Int → (List ((Int × Int) × ((Int × Int) × Int))) → (List (Int × Int)) → Int → Int → (List Int) → Int → Int → Option R) (K0 : Bool → (List Int) → Option R) (i : Int) (o0 : Int) (o0_1 : Int) (o0_2 : Int) (o0_3 : Int) (o0_4 : List Int) (o0_5 : List Int) (o1 : Int) (o1_1 : Int) (o1_2 : Int) (o1_3 : Int) (o1_4 : List Int) (o1_5 : List Int) (o2 : Int) (o2_1 : Int) (o3 : List ((Int × Int) × ((Int × Int) × Int))) (o4 : List (Int × Int)) (o5 : Int) (o5_1 : Int) (o6 : List Int) : Option R :=
  bi (i == (o4.length : Int))
   (K0 false ([] : List Int))
   (bi (decide (0 ≤ i ∧ i < ((o4.length : Nat) : Int)))
    (g28_13 i o0_1 0 o0 o0_1 o0_2 o0_3 o0_4 o0_5 o1 o1_1 o1_2 o1_3 o1_4 o1_5 o2 o2_1 o3 o4 o5 o5_1 o6 ((o4.getD i.toNat (0, 0)).1) ((o4.getD i.toNat (0, 0)).2))
    none)

/-- tutor/differ.search -/
def s_differ_search_13 {R : Type} (g28_9 : Int → Int → Int → Int → Int → (List Int) → (List Int) → Int → Int → Int → Int → (List Int) → (List Int) → Int → Int → (List ((Int × Int) × ((Int × Int) × Int))) → (List (Int × Int)) → Int → Int → (List Int) → Option R) (g28_13 : Int → Int → Int → Int → Int → Int → Int → (List Int) → (List Int) → Int → Int → Int → Int → (List Int) → (List Int) → Int → Int → (List ((Int × Int) × ((Int × Int) × Int))) → (List (Int × Int)) → Int → Int → (List Int) → Int → Int → Option R) (K0 : Bool → (List Int) → Option R) (i : Int) (x55 : Int) (x56 : Int) (o0 : Int) (o0_1 : Int) (o0_2 : Int) (o0_3 : Int) (o0_4 : List Int) (o0_5 : List Int) (o1 : Int) (o1_1 : Int) (o1_2 : Int) (o1_3 : Int) (o1_4 : List Int) (o1_5 : List Int) (o2 : Int) (o2_1 : Int) (o3 : List ((Int × Int) × ((Int × Int) × Int))) (o4 : List (Int × Int)) (o5 : Int) (o5_1 : Int) (o6 : List Int) (o7 : Int) (o7_1 : Int) : Option R :=
  bi (decide (x56 < x55))
   (bi (decide (0 ≤ (IntKind.i64.wrap ((IntKind.i64.wrap (o7 * o0_1)) + x56)) ∧ (IntKind.i64.wrap ((IntKind.i64.wrap (o7 * o0_1)) + x56)) < ((o0_4.length : Nat) : Int)))
    (bi (decide (0 ≤ (IntKind.i64.wrap ((IntKind.i64.wrap (o7_1 * o1_1)) + x56)) ∧ (IntKind.i64.wrap ((IntKind.i64.wrap (o7_1 * o1_1)) + x56)) < ((o1_4.length : Nat) : Int)))
     (both
      (bi (o0 == 2)
       (bi (decide (0 ≤ (IntKind.i64.wrap ((IntKind.i64.wrap (o7 * o0_1)) + x56)) ∧ (IntKind.i64.wrap ((IntKind.i64.wrap (o7 * o0_1)) + x56)) < ((o0_5.length : Nat) : Int)))
        (bi (decide (0 ≤ (IntKind.i64.wrap ((IntKind.i64.wrap (o7_1 * o1_1)) + x56)) ∧ (IntKind.i64.wrap ((IntKind.i64.wrap (o7_1 * o1_1)) + x56)) < ((o1_5.length : Nat) : Int)))
         (bi ((o0_5.getD ((IntKind.i64.wrap ((IntKind.i64.wrap (o7 * o0_1)) + x56)).toNat) 0) != (o1_5.getD ((IntKind.i64.wrap ((IntKind.i64.wrap (o7_1 * o1_1)) + x56)).toNat) 0))
          (l_differ_back o2 o2_1 o7 o7_1 o3
           (fun r1 r2 =>
            bi (decide ((r2.length + [x56].length) * 8 ≤ lim))
             (K0 true (r2 ++ [x56]))
             none))
          (bi (mhas (.pr (.int .i64) (.int .i64)) (.pr (.pr (.int .i64) (.int .i64)) (.int .i64)) o3 (o0_4.getD ((IntKind.i64.wrap ((IntKind.i64.wrap (o7 * o0_1)) + x56)).toNat) 0, o1_4.getD ((IntKind.i64.wrap ((IntKind.i64.wrap (o7_1 * o1_1)) + x56)).toNat) 0))
           (g28_13 i x55 (IntKind.i64.wrap (x56 + 1)) o0 o0_1 o0_2 o0_3 o0_4 o0_5 o1 o1_1 o1_2 o1_3 o1_4 o1_5 o2 o2_1 o3 o4 o5 o5_1 o6 o7 o7_1)
           (bi (decide ((o4.length + [(o0_4.getD ((IntKind.i64.wrap ((IntKind.i64.wrap (o7 * o0_1)) + x56)).toNat) 0, o1_4.getD ((IntKind.i64.wrap ((IntKind.i64.wrap (o7_1 * o1_1)) + x56)).toNat) 0)].length) * 16 ≤ lim))
            (bi (o0 == 1)
             (bi (decide (0 ≤ (o0_4.getD ((IntKind.i64.wrap ((IntKind.i64.wrap (o7 * o0_1)) + x56)).toNat) 0) ∧ (o0_4.getD ((IntKind.i64.wrap ((IntKind.i64.wrap (o7 * o0_1)) + x56)).toNat) 0) < ((o0_5.length : Nat) : Int)))
              (bi (decide (0 ≤ (o1_4.getD ((IntKind.i64.wrap ((IntKind.i64.wrap (o7_1 * o1_1)) + x56)).toNat) 0) ∧ (o1_4.getD ((IntKind.i64.wrap ((IntKind.i64.wrap (o7_1 * o1_1)) + x56)).toNat) 0) < ((o1_5.length : Nat) : Int)))
               (bi ((o0_5.getD ((o0_4.getD ((IntKind.i64.wrap ((IntKind.i64.wrap (o7 * o0_1)) + x56)).toNat) 0).toNat) 0) != (o1_5.getD ((o1_4.getD ((IntKind.i64.wrap ((IntKind.i64.wrap (o7_1 * o1_1)) + x56)).toNat) 0).toNat) 0))
                (l_differ_back o2 o2_1 (o0_4.getD ((IntKind.i64.wrap ((IntKind.i64.wrap (o7 * o0_1)) + x56)).toNat) 0) (o1_4.getD ((IntKind.i64.wrap ((IntKind.i64.wrap (o7_1 * o1_1)) + x56)).toNat) 0) (mput (.pr (.int .i64) (.int .i64)) (.pr (.pr (.int .i64) (.int .i64)) (.int .i64)) (o0_4.getD ((IntKind.i64.wrap ((IntKind.i64.wrap (o7 * o0_1)) + x56)).toNat) 0, o1_4.getD ((IntKind.i64.wrap ((IntKind.i64.wrap (o7_1 * o1_1)) + x56)).toNat) 0) ((o7, o7_1), x56) o3)
                 (fun r3 r4 =>
                  bi (decide ((r4.length + o6.length) * 8 ≤ lim))
                   (K0 true (r4 ++ o6))
                   none))
                (g28_13 i x55 (IntKind.i64.wrap (x56 + 1)) o0 o0_1 o0_2 o0_3 o0_4 o0_5 o1 o1_1 o1_2 o1_3 o1_4 o1_5 o2 o2_1 (mput (.pr (.int .i64) (.int .i64)) (.pr (.pr (.int .i64) (.int .i64)) (.int .i64)) (o0_4.getD ((IntKind.i64.wrap ((IntKind.i64.wrap (o7 * o0_1)) + x56)).toNat) 0, o1_4.getD ((IntKind.i64.wrap ((IntKind.i64.wrap (o7_1 * o1_1)) + x56)).toNat) 0) ((o7, o7_1), x56) o3) (o4 ++ [(o0_4.getD ((IntKind.i64.wrap ((IntKind.i64.wrap (o7 * o0_1)) + x56)).toNat) 0, o1_4.getD ((IntKind.i64.wrap ((IntKind.i64.wrap (o7_1 * o1_1)) + x56)).toNat) 0)]) o5 o5_1 o6 o7 o7_1))
               none)
              none)
             (g28_13 i x55 (IntKind.i64.wrap (x56 + 1)) o0 o0_1 o0_2 o0_3 o0_4 o0_5 o1 o1_1 o1_2 o1_3 o1_4 o1_5 o2 o2_1 (mput (.pr (.int .i64) (.int .i64)) (.pr (.pr (.int .i64) (.int .i64)) (.int .i64)) (o0_4.getD ((IntKind.i64.wrap ((IntKind.i64.wrap (o7 * o0_1)) + x56)).toNat) 0, o1_4.getD ((IntKind.i64.wrap ((IntKind.i64.wrap (o7_1 * o1_1)) + x56)).toNat) 0) ((o7, o7_1), x56) o3) (o4 ++ [(o0_4.getD ((IntKind.i64.wrap ((IntKind.i64.wrap (o7 * o0_1)) + x56)).toNat) 0, o1_4.getD ((IntKind.i64.wrap ((IntKind.i64.wrap (o7_1 * o1_1)) + x56)).toNat) 0)]) o5 o5_1 o6 o7 o7_1))
            none)))
         none)
        none)
       (bi (mhas (.pr (.int .i64) (.int .i64)) (.pr (.pr (.int .i64) (.int .i64)) (.int .i64)) o3 (o0_4.getD ((IntKind.i64.wrap ((IntKind.i64.wrap (o7 * o0_1)) + x56)).toNat) 0, o1_4.getD ((IntKind.i64.wrap ((IntKind.i64.wrap (o7_1 * o1_1)) + x56)).toNat) 0))
        (g28_13 i x55 (IntKind.i64.wrap (x56 + 1)) o0 o0_1 o0_2 o0_3 o0_4 o0_5 o1 o1_1 o1_2 o1_3 o1_4 o1_5 o2 o2_1 o3 o4 o5 o5_1 o6 o7 o7_1)
        (bi (decide ((o4.length + [(o0_4.getD ((IntKind.i64.wrap ((IntKind.i64.wrap (o7 * o0_1)) + x56)).toNat) 0, o1_4.getD ((IntKind.i64.wrap ((IntKind.i64.wrap (o7_1 * o1_1)) + x56)).toNat) 0)].length) * 16 ≤ lim))
         (bi (o0 == 1)
          (bi (decide (0 ≤ (o0_4.getD ((IntKind.i64.wrap ((IntKind.i64.wrap (o7 * o0_1)) + x56)).toNat) 0) ∧ (o0_4.getD ((IntKind.i64.wrap ((IntKind.i64.wrap (o7 * o0_1)) + x56)).toNat) 0) < ((o0_5.length : Nat) : Int)))
           (bi (decide (0 ≤ (o1_4.getD ((IntKind.i64.wrap ((IntKind.i64.wrap (o7_1 * o1_1)) + x56)).toNat) 0) ∧ (o1_4.getD ((IntKind.i64.wrap ((IntKind.i64.wrap (o7_1 * o1_1)) + x56)).toNat) 0) < ((o1_5.length : Nat) : Int)))
            (bi ((o0_5.getD ((o0_4.getD ((IntKind.i64.wrap ((IntKind.i64.wrap (o7 * o0_1)) + x56)).toNat) 0).toNat) 0) != (o1_5.getD ((o1_4.getD ((IntKind.i64.wrap ((IntKind.i64.wrap (o7_1 * o1_1)) + x56)).toNat) 0).toNat) 0))
             (l_differ_back o2 o2_1 (o0_4.getD ((IntKind.i64.wrap ((IntKind.i64.wrap (o7 * o0_1)) + x56)).toNat) 0) (o1_4.getD ((IntKind.i64.wrap ((IntKind.i64.wrap (o7_1 * o1_1)) + x56)).toNat) 0) (mput (.pr (.int .i64) (.int .i64)) (.pr (.pr (.int .i64) (.int .i64)) (.int .i64)) (o0_4.getD ((IntKind.i64.wrap ((IntKind.i64.wrap (o7 * o0_1)) + x56)).toNat) 0, o1_4.getD ((IntKind.i64.wrap ((IntKind.i64.wrap (o7_1 * o1_1)) + x56)).toNat) 0) ((o7, o7_1), x56) o3)
              (fun r5 r6 =>
               bi (decide ((r6.length + o6.length) * 8 ≤ lim))
                (K0 true (r6 ++ o6))
                none))
             (g28_13 i x55 (IntKind.i64.wrap (x56 + 1)) o0 o0_1 o0_2 o0_3 o0_4 o0_5 o1 o1_1 o1_2 o1_3 o1_4 o1_5 o2 o2_1 (mput (.pr (.int .i64) (.int .i64)) (.pr (.pr (.int .i64) (.int .i64)) (.int .i64)) (o0_4.getD ((IntKind.i64.wrap ((IntKind.i64.wrap (o7 * o0_1)) + x56)).toNat) 0, o1_4.getD ((IntKind.i64.wrap ((IntKind.i64.wrap (o7_1 * o1_1)) + x56)).toNat) 0) ((o7, o7_1), x56) o3) (o4 ++ [(o0_4.getD ((IntKind.i64.wrap ((IntKind.i64.wrap (o7 * o0_1)) + x56)).toNat) 0, o1_4.getD ((IntKind.i64.wrap ((IntKind.i64.wrap (o7_1 * o1_1)) + x56)).toNat) 0)]) o5 o5_1 o6 o7 o7_1))
            none)
           none)
          (g28_13 i x55 (IntKind.i64.wrap (x56 + 1)) o0 o0_1 o0_2 o0_3 o0_4 o0_5 o1 o1_1 o1_2 o1_3 o1_4 o1_5 o2 o2_1 (mput (.pr (.int .i64) (.int .i64)) (.pr (.pr (.int .i64) (.int .i64)) (.int .i64)) (o0_4.getD ((IntKind.i64.wrap ((IntKind.i64.wrap (o7 * o0_1)) + x56)).toNat) 0, o1_4.getD ((IntKind.i64.wrap ((IntKind.i64.wrap (o7_1 * o1_1)) + x56)).toNat) 0) ((o7, o7_1), x56) o3) (o4 ++ [(o0_4.getD ((IntKind.i64.wrap ((IntKind.i64.wrap (o7 * o0_1)) + x56)).toNat) 0, o1_4.getD ((IntKind.i64.wrap ((IntKind.i64.wrap (o7_1 * o1_1)) + x56)).toNat) 0)]) o5 o5_1 o6 o7 o7_1))
         none)))
      (bi (o0 == 2)
       (bi (decide (0 ≤ (IntKind.i64.wrap ((IntKind.i64.wrap (o7 * o0_1)) + x56)) ∧ (IntKind.i64.wrap ((IntKind.i64.wrap (o7 * o0_1)) + x56)) < ((o0_5.length : Nat) : Int)))
        (bi (decide (0 ≤ (IntKind.i64.wrap ((IntKind.i64.wrap (o7_1 * o1_1)) + x56)) ∧ (IntKind.i64.wrap ((IntKind.i64.wrap (o7_1 * o1_1)) + x56)) < ((o1_5.length : Nat) : Int)))
         (bi ((o0_5.getD ((IntKind.i64.wrap ((IntKind.i64.wrap (o7 * o0_1)) + x56)).toNat) 0) != (o1_5.getD ((IntKind.i64.wrap ((IntKind.i64.wrap (o7_1 * o1_1)) + x56)).toNat) 0))
          (l_differ_back o2 o2_1 o7 o7_1 o3
           (fun r7 r8 =>
            bi (decide ((r8.length + [x56].length) * 8 ≤ lim))
             (K0 true (r8 ++ [x56]))
             none))
          (bi (mhas (.pr (.int .i64) (.int .i64)) (.pr (.pr (.int .i64) (.int .i64)) (.int .i64)) o3 (o0_4.getD ((IntKind.i64.wrap ((IntKind.i64.wrap (o7 * o0_1)) + x56)).toNat) 0, o1_4.getD ((IntKind.i64.wrap ((IntKind.i64.wrap (o7_1 * o1_1)) + x56)).toNat) 0))
           (g28_13 i x55 (IntKind.i64.wrap (x56 + 1)) o0 o0_1 o0_2 o0_3 o0_4 o0_5 o1 o1_1 o1_2 o1_3 o1_4 o1_5 o2 o2_1 o3 o4 o5 o5_1 o6 o7 o7_1)
           (bi (decide ((o4.length + [(o0_4.getD ((IntKind.i64.wrap ((IntKind.i64.wrap (o7 * o0_1)) + x56)).toNat) 0, o1_4.getD ((IntKind.i64.wrap ((IntKind.i64.wrap (o7_1 * o1_1)) + x56)).toNat) 0)].length) * 16 ≤ lim))
            (bi (o0 == 1)
             (bi (decide (0 ≤ (o0_4.getD ((IntKind.i64.wrap ((IntKind.i64.wrap (o7 * o0_1)) + x56)).toNat) 0) ∧ (o0_4.getD ((IntKind.i64.wrap ((IntKind.i64.wrap (o7 * o0_1)) + x56)).toNat) 0) < ((o0_5.length : Nat) : Int)))
              (bi (decide (0 ≤ (o1_4.getD ((IntKind.i64.wrap ((IntKind.i64.wrap (o7_1 * o1_1)) + x56)).toNat) 0) ∧ (o1_4.getD ((IntKind.i64.wrap ((IntKind.i64.wrap (o7_1 * o1_1)) + x56)).toNat) 0) < ((o1_5.length : Nat) : Int)))
               (bi ((o0_5.getD ((o0_4.getD ((IntKind.i64.wrap ((IntKind.i64.wrap (o7 * o0_1)) + x56)).toNat) 0).toNat) 0) != (o1_5.getD ((o1_4.getD ((IntKind.i64.wrap ((IntKind.i64.wrap (o7_1 * o1_1)) + x56)).toNat) 0).toNat) 0))
                (l_differ_back o2 o2_1 (o0_4.getD ((IntKind.i64.wrap ((IntKind.i64.wrap (o7 * o0_1)) + x56)).toNat) 0) (o1_4.getD ((IntKind.i64.wrap ((IntKind.i64.wrap (o7_1 * o1_1)) + x56)).toNat) 0) (mput (.pr (.int .i64) (.int .i64)) (.pr (.pr (.int .i64) (.int .i64)) (.int .i64)) (o0_4.getD ((IntKind.i64.wrap ((IntKind.i64.wrap (o7 * o0_1)) + x56)).toNat) 0, o1_4.getD ((IntKind.i64.wrap ((IntKind.i64.wrap (o7_1 * o1_1)) + x56)).toNat) 0) ((o7, o7_1), x56) o3)
                 (fun r9 r10 =>
                  bi (decide ((r10.length + o6.length) * 8 ≤ lim))
                   (K0 true (r10 ++ o6))
                   none))
                (g28_13 i x55 (IntKind.i64.wrap (x56 + 1)) o0 o0_1 o0_2 o0_3 o0_4 o0_5 o1 o1_1 o1_2 o1_3 o1_4 o1_5 o2 o2_1 (mput (.pr (.int .i64) (.int .i64)) (.pr (.pr (.int .i64) (.int .i64)) (.int .i64)) (o0_4.getD ((IntKind.i64.wrap ((IntKind.i64.wrap (o7 * o0_1)) + x56)).toNat) 0, o1_4.getD ((IntKind.i64.wrap ((IntKind.i64.wrap (o7_1 * o1_1)) + x56)).toNat) 0) ((o7, o7_1), x56) o3) (o4 ++ [(o0_4.getD ((IntKind.i64.wrap ((IntKind.i64.wrap (o7 * o0_1)) + x56)).toNat) 0, o1_4.getD ((IntKind.i64.wrap ((IntKind.i64.wrap (o7_1 * o1_1)) + x56)).toNat) 0)]) o5 o5_1 o6 o7 o7_1))
               none)
              none)
             (g28_13 i x55 (IntKind.i64.wrap (x56 + 1)) o0 o0_1 o0_2 o0_3 o0_4 o0_5 o1 o1_1 o1_2 o1_3 o1_4 o1_5 o2 o2_1 (mput (.pr (.int .i64) (.int .i64)) (.pr (.pr (.int .i64) (.int .i64)) (.int .i64)) (o0_4.getD ((IntKind.i64.wrap ((IntKind.i64.wrap (o7 * o0_1)) + x56)).toNat) 0, o1_4.getD ((IntKind.i64.wrap ((IntKind.i64.wrap (o7_1 * o1_1)) + x56)).toNat) 0) ((o7, o7_1), x56) o3) (o4 ++ [(o0_4.getD ((IntKind.i64.wrap ((IntKind.i64.wrap (o7 * o0_1)) + x56)).toNat) 0, o1_4.getD ((IntKind.i64.wrap ((IntKind.i64.wrap (o7_1 * o1_1)) + x56)).toNat) 0)]) o5 o5_1 o6 o7 o7_1))
            none)))
         none)
        none)
       (bi (mhas (.pr (.int .i64) (.int .i64)) (.pr (.pr (.int .i64) (.int .i64)) (.int .i64)) o3 (o0_4.getD ((IntKind.i64.wrap ((IntKind.i64.wrap (o7 * o0_1)) + x56)).toNat) 0, o1_4.getD ((IntKind.i64.wrap ((IntKind.i64.wrap (o7_1 * o1_1)) + x56)).toNat) 0))
        (g28_13 i x55 (IntKind.i64.wrap (x56 + 1)) o0 o0_1 o0_2 o0_3 o0_4 o0_5 o1 o1_1 o1_2 o1_3 o1_4 o1_5 o2 o2_1 o3 o4 o5 o5_1 o6 o7 o7_1)
        (bi (decide ((o4.length + [(o0_4.getD ((IntKind.i64.wrap ((IntKind.i64.wrap (o7 * o0_1)) + x56)).toNat) 0, o1_4.getD ((IntKind.i64.wrap ((IntKind.i64.wrap (o7_1 * o1_1)) + x56)).toNat) 0)].length) * 16 ≤ lim))
         (bi (o0 == 1)
          (bi (decide (0 ≤ (o0_4.getD ((IntKind.i64.wrap ((IntKind.i64.wrap (o7 * o0_1)) + x56)).toNat) 0) ∧ (o0_4.getD ((IntKind.i64.wrap ((IntKind.i64.wrap (o7 * o0_1)) + x56)).toNat) 0) < ((o0_5.length : Nat) : Int)))
           (bi (decide (0 ≤ (o1_4.getD ((IntKind.i64.wrap ((IntKind.i64.wrap (o7_1 * o1_1)) + x56)).toNat) 0) ∧ (o1_4.getD ((IntKind.i64.wrap ((IntKind.i64.wrap (o7_1 * o1_1)) + x56)).toNat) 0) < ((o1_5.length : Nat) : Int)))
            (bi ((o0_5.getD ((o0_4.getD ((IntKind.i64.wrap ((IntKind.i64.wrap (o7 * o0_1)) + x56)).toNat) 0).toNat) 0) != (o1_5.getD ((o1_4.getD ((IntKind.i64.wrap ((IntKind.i64.wrap (o7_1 * o1_1)) + x56)).toNat) 0).toNat) 0))
             (l_differ_back o2 o2_1 (o0_4.getD ((IntKind.i64.wrap ((IntKind.i64.wrap (o7 * o0_1)) + x56)).toNat) 0) (o1_4.getD ((IntKind.i64.wrap ((IntKind.i64.wrap (o7_1 * o1_1)) + x56)).toNat) 0) (mput (.pr (.int .i64) (.int .i64)) (.pr (.pr (.int .i64) (.int .i64)) (.int .i64)) (o0_4.getD ((IntKind.i64.wrap ((IntKind.i64.wrap (o7 * o0_1)) + x56)).toNat) 0, o1_4.getD ((IntKind.i64.wrap ((IntKind.i64.wrap (o7_1 * o1_1)) + x56)).toNat) 0) ((o7, o7_1), x56) o3)
              (fun r11 r12 =>
               bi (decide ((r12.length + o6.length) * 8 ≤ lim))
                (K0 true (r12 ++ o6))
                none))
             (g28_13 i x55 (IntKind.i64.wrap (x56 + 1)) o0 o0_1 o0_2 o0_3 o0_4 o0_5 o1 o1_1 o1_2 o1_3 o1_4 o1_5 o2 o2_1 (mput (.pr (.int .i64) (.int .i64)) (.pr (.pr (.int .i64) (.int .i64)) (.int .i64)) (o0_4.getD ((IntKind.i64.wrap ((IntKind.i64.wrap (o7 * o0_1)) + x56)).toNat) 0, o1_4.getD ((IntKind.i64.wrap ((IntKind.i64.wrap (o7_1 * o1_1)) + x56)).toNat) 0) ((o7, o7_1), x56) o3) (o4 ++ [(o0_4.getD ((IntKind.i64.wrap ((IntKind.i64.wrap (o7 * o0_1)) + x56)).toNat) 0, o1_4.getD ((IntKind.i64.wrap ((IntKind.i64.wrap (o7_1 * o1_1)) + x56)).toNat) 0)]) o5 o5_1 o6 o7 o7_1))
            none)
           none)
          (g28_13 i x55 (IntKind.i64.wrap (x56 + 1)) o0 o0_1 o0_2 o0_3 o0_4 o0_5 o1 o1_1 o1_2 o1_3 o1_4 o1_5 o2 o2_1 (mput (.pr (.int .i64) (.int .i64)) (.pr (.pr (.int .i64) (.int .i64)) (.int .i64)) (o0_4.getD ((IntKind.i64.wrap ((IntKind.i64.wrap (o7 * o0_1)) + x56)).toNat) 0, o1_4.getD ((IntKind.i64.wrap ((IntKind.i64.wrap (o7_1 * o1_1)) + x56)).toNat) 0) ((o7, o7_1), x56) o3) (o4 ++ [(o0_4.getD ((IntKind.i64.wrap ((IntKind.i64.wrap (o7 * o0_1)) + x56)).toNat) 0, o1_4.getD ((IntKind.i64.wrap ((IntKind.i64.wrap (o7_1 * o1_1)) + x56)).toNat) 0)]) o5 o5_1 o6 o7 o7_1))
         none))))
     none)
    none)
   (g28_9 (IntKind.i64.wrap (i + 1)) o0 o0_1 o0_2 o0_3 o0_4 o0_5 o1 o1_1 o1_2 o1_3 o1_4 o1_5 o2 o2_1 o3 o4 o5 o5_1 o6)

/-- tutor/differ.search -/
def e_differ_search {R : Type} (g28_9 : Int → Int → Int → Int → Int → (List Int) → (List Int) → Int → Int → Int → Int → (List Int) → (List Int) → Int → Int → (List ((Int × Int) × ((Int × Int) × Int))) → (List (Int × Int)) → Int → Int → (List Int) → Option R) (g28_13 : Int → Int → Int → Int → Int → Int → Int → (List Int) → (List Int) → Int → Int → Int → Int → (List Int) → (List Int) → Int → Int → (List ((Int × Int) × ((Int × Int) × Int))) → (List (Int × Int)) → Int → Int → (List Int) → Int → Int → Option R) (K0 : Bool → (List Int) → Option R) (a : Int) (a_1 : Int) (a_2 : Int) (a_3 : Int) (a_4 : List Int) (a_5 : List Int) (b : Int) (b_1 : Int) (b_2 : Int) (b_3 : Int) (b_4 : List Int) (b_5 : List Int) (start : Int) (start_1 : Int) : Option R :=
  bi (a == 1)
   (bi (decide (0 ≤ start ∧ start < ((a_5.length : Nat) : Int)))
    (bi (decide (0 ≤ start_1 ∧ start_1 < ((b_5.length : Nat) : Int)))
     (bi ((a_5.getD start.toNat 0) != (b_5.getD start_1.toNat 0))
      (K0 true ([] : List Int))
      (g28_9 0 a a_1 a_2 a_3 a_4 a_5 b b_1 b_2 b_3 b_4 b_5 start start_1 (mput (.pr (.int .i64) (.int .i64)) (.pr (.pr (.int .i64) (.int .i64)) (.int .i64)) (start, start_1) ((0, 0), 0) ([] : List ((Int × Int) × ((Int × Int) × Int)))) [(start, start_1)] 0 0 ([] : List Int)))
     none)
    none)
   (g28_9 0 a a_1 a_2 a_3 a_4 a_5 b b_1 b_2 b_3 b_4 b_5 start start_1 (mput (.pr (.int .i64) (.int .i64)) (.pr (.pr (.int .i64) (.int .i64)) (.int .i64)) (start, start_1) ((0, 0), 0) ([] : List ((Int × Int) × ((Int × Int) × Int)))) [(start, start_1)] 0 0 ([] : List Int))

def run_differ_search {R : Type} (K0 : Bool → (List Int) → Option R) : Nat → (Int → Int → Int → Int → Int → (List Int) → (List Int) → Int → Int → Int → Int → (List Int) → (List Int) → Int → Int → (List ((Int × Int) × ((Int × Int) × Int))) → (List (Int × Int)) → Int → Int → (List Int) → Option R) × (Int → Int → Int → Int → Int → Int → Int → (List Int) → (List Int) → Int → Int → Int → Int → (List Int) → (List Int) → Int → Int → (List ((Int × Int) × ((Int × Int) × Int))) → (List (Int × Int)) → Int → Int → (List Int) → Int → Int → Option R)
  | 0 => (fun _ _ _ _ _ _ _ _ _ _ _ _ _ _ _ _ _ _ _ _ => none, fun _ _ _ _ _ _ _ _ _ _ _ _ _ _ _ _ _ _ _ _ _ _ _ _ => none)
  | n + 1 => (s_differ_search_9 (run_differ_search K0 n).1 (run_differ_search K0 n).2 K0, s_differ_search_13 (run_differ_search K0 n).1 (run_differ_search K0 n).2 K0)

def l_differ_search {R : Type} (a : Int) (a_1 : Int) (a_2 : Int) (a_3 : Int) (a_4 : List Int) (a_5 : List Int) (b : Int) (b_1 : Int) (b_2 : Int) (b_3 : Int) (b_4 : List Int) (b_5 : List Int) (start : Int) (start_1 : Int) (K0 : Bool → (List Int) → Option R) : Option R :=
  bi (decide ((checkR a a_1 a_2 a_3 a_4 a_5).2 = 0 ∧ (checkR b b_1 b_2 b_3 b_4 b_5).2 = 0 ∧ a = b ∧ a_1 = b_1 ∧ (0 ≤ start ∧ start < a_3) ∧ (0 ≤ start_1 ∧ start_1 < b_3)))
    (K0 (searchS ⟨a, a_1, a_3, b_3, a_4, a_5, b_4, b_5⟩ (start, start_1)).1 (searchS ⟨a, a_1, a_3, b_3, a_4, a_5, b_4, b_5⟩ (start, start_1)).2) none

theorem rows_get (L : List PW) (i : Nat) : (L.map (·.1)).getD i (0, 0) = (L.getD i pw0).1 := by
  simp only [List.getD_eq_getElem?_getD, List.getElem?_map]
  cases L[i]? <;> rfl

theorem search_run {R : Type} {D : Duo} {O O' : Int} (A : Fine D.k D.K O D.N D.nx D.ou) (B : Fine D.k D.K O' D.M D.nx' D.ou') (s : Int × Int) (K0 : Bool → List Int → Option R) :
    ∀ (n i x : Nat) (L : List PW) (o : Came) (r : Bool × List Int), bfs D n i x L = some r → Inv D s L → Ways s o L → i < L.length → x ≤ D.K.toNat →
    Reach (fun m => (run_differ_search K0 m).2 i D.K x D.k D.K O D.N D.nx D.ou D.k D.K O' D.M D.nx' D.ou' s.1 s.2 o (L.map (·.1)) 0 0 [] (L.getD i pw0).1.1 (L.getD i pw0).1.2) (K0 r.1 r.2)
  | 0, _, _, _, _, _, h, _, _, _, _ => by cases h
  | n + 1, i, x, L, o, r, h, I, W, hi, hx => by
    have F : D.Fine := ⟨⟨O, A⟩, ⟨O', B⟩⟩
    have hK := A.fK
    have hNK := mulK ⟨A.fN, A.fK⟩
    have hMK := mulK ⟨B.fN, B.fK⟩
    have hNM := mul_most A.fN B.fN
    have hmost := I.most
    have hm : L.getD i pw0 ∈ L := getD_mem hi
    have hp := I.inn _ hm
    unfold bfs at h
    by_cases c : (x : Int) < D.K
    · rw [if_pos c] at h
      have hx' : 0 ≤ (x : Int) ∧ (x : Int) < D.K := ⟨by omega, c⟩
      have i1 := idx_in hp.1 hx'
      have i2 := idx_in hp.2 hx'
      have f1 := A.fnx
      have f2 := B.fnx
      have hq := nxt_inn F hp hx'
      have hlen := I.len i hi
      have hrow : (L.map (·.1)).length = L.length := List.length_map _
      have key : ∀ m, (run_differ_search K0 (m + 1)).2 i D.K x D.k D.K O D.N D.nx D.ou D.k D.K O' D.M D.nx' D.ou' s.1 s.2 o (L.map (·.1)) 0 0 [] (L.getD i pw0).1.1 (L.getD i pw0).1.2 =
          if D.sy (L.getD i pw0).1 x || D.st (D.nxt (L.getD i pw0).1 x) then K0 true ((L.getD i pw0).2 ++ [(x : Int)])
          else if known L (D.nxt (L.getD i pw0).1 x) then (run_differ_search K0 m).2 i D.K ((x + 1 : Nat) : Int) D.k D.K O D.N D.nx D.ou D.k D.K O' D.M D.nx' D.ou' s.1 s.2 o (L.map (·.1)) 0 0 [] (L.getD i pw0).1.1 (L.getD i pw0).1.2
          else (run_differ_search K0 m).2 i D.K ((x + 1 : Nat) : Int) D.k D.K O D.N D.nx D.ou D.k D.K O' D.M D.nx' D.ou' s.1 s.2 (o ++ [(D.nxt (L.getD i pw0).1 x, ((L.getD i pw0).1, (x : Int)))]) (L.map (·.1) ++ [D.nxt (L.getD i pw0).1 x]) 0 0 [] (L.getD i pw0).1.1 (L.getD i pw0).1.2 := by
        intro m
        show s_differ_search_13 _ _ _ _ _ _ _ _ _ _ _ _ _ _ _ _ _ _ _ _ _ _ _ _ _ _ _ = _
        unfold s_differ_search_13
        simp only [both_same]
        generalize hP : L.getD i pw0 = P at *
        obtain ⟨⟨p1, p2⟩, w⟩ := P
        dsimp only at hp i1 i2 hq hlen ⊢
        rw [br_pos c, wr (p1 * D.K) (by omega) (by omega), wr (p2 * D.K) (by omega) (by omega), wr (p1 * D.K + x) (by omega) (by omega), wr (p2 * D.K + x) (by omega) (by omega), wr ((x : Int) + 1) (by omega) (by omega)]
        rw [br_pos (by omega), br_pos (by omega)]
        have hmh := mhas_known W (D.nxt (p1, p2) x)
        have hst : D.k = 2 → ∀ q, D.st q = false := fun h q => by unfold Duo.st; rw [h]; rfl
        have hsy : D.k = 1 → ∀ q y, D.sy q y = false := fun h q y => by unfold Duo.sy; rw [h]; rfl
        have hQ : D.nxt (p1, p2) x = (D.nx.getD (p1 * D.K + x).toNat 0, D.nx'.getD (p2 * D.K + x).toNat 0) := rfl
        rw [← hQ]
        rw [show D.nx.getD (p1 * D.K + x).toNat 0 = (D.nxt (p1, p2) x).1 from rfl, show D.nx'.getD (p2 * D.K + x).toNat 0 = (D.nxt (p1, p2) x).2 from rfl]
        generalize hq' : D.nxt (p1, p2) x = q at *
        rw [show mhas (.pr (.int .i64) (.int .i64)) (.pr (.pr (.int .i64) (.int .i64)) (.int .i64)) o q = known L q from hmh]
        have hpl : ((L.map (·.1)).length + [q].length) * 16 ≤ lim := by
          rw [hrow]
          show (L.length + 1) * 16 ≤ 140737488355328
          omega
        have hsame : known L q = true → D.st q = false := fun hk => by
          obtain ⟨e, he, rfl⟩ := List.mem_map.1 (known_iff.1 hk)
          exact I.st e he
        have hnew : known L q = false → mput (.pr (.int .i64) (.int .i64)) (.pr (.pr (.int .i64) (.int .i64)) (.int .i64)) q ((p1, p2), (x : Int)) o = o ++ [(q, ((p1, p2), (x : Int)))] := fun hk => mput_new (by
          rw [W.keys]
          intro hm
          rw [known_iff.2 hm] at hk
          cases hk)
        rcases A.fk with hk | hk
        · rw [br_eq' (by omega), hsy hk, Bool.false_or]
          have g1 := A.fou1 hk
          have g2 := B.fou1 hk
          cases hkn : known L q with
          | true =>
            rw [br_tt, hsame hkn, if_neg (by decide), if_pos rfl]
            rfl
          | false =>
            rw [br_ff, br_pos hpl, br_eq hk, br_pos (by have := hq.1; omega), br_pos (by have := hq.2; omega), hnew hkn]
            have hs : D.st q = (D.ou.getD q.1.toNat 0 != D.ou'.getD q.2.toNat 0) := by unfold Duo.st; rw [hk]; rfl
            rw [← hs]
            cases hst' : D.st q with
            | true =>
              rw [br_tt, if_pos rfl]
              have Wp := W.push (e := ((p1, p2), w)) hm hkn x
              rw [show l_differ_back s.1 s.2 q.1 q.2 (o ++ [(q, ((p1, p2), (x : Int)))]) _ = _ from back_eq Wp (e := (q, w ++ [(x : Int)])) (by simp) (by simp; omega) _]
              dsimp only
              rw [br_pos (by
                rw [List.length_append]
                show (w.length + 1 + 0) * 8 ≤ 140737488355328
                omega), List.append_nil]
            | false =>
              rw [br_ff, if_neg (by decide), if_neg (by decide)]
              rfl
        · have g1 := A.fou2 hk
          have g2 := B.fou2 hk
          rw [br_eq hk, br_pos (by omega), br_pos (by omega), hst hk, Bool.or_false]
          have hs : D.sy (p1, p2) x = (D.ou.getD (p1 * D.K + x).toNat 0 != D.ou'.getD (p2 * D.K + x).toNat 0) := by unfold Duo.sy; rw [hk]; rfl
          rw [← hs]
          cases hsy' : D.sy (p1, p2) x with
          | true =>
            rw [br_tt, if_pos rfl, show l_differ_back s.1 s.2 p1 p2 o _ = _ from back_eq W (e := ((p1, p2), w)) hm (by omega) _]
            dsimp only
            rw [br_pos (by
              show (w.length + 1) * 8 ≤ 140737488355328
              omega)]
          | false =>
            rw [br_ff, if_neg (by decide)]
            cases hkn : known L q with
            | true => rw [br_tt, if_pos rfl]; rfl
            | false =>
              rw [br_ff, br_pos hpl, br_eq' (by omega), hnew hkn, if_neg (by decide)]
              rfl
      cases h1 : D.sy (L.getD i pw0).1 x || D.st (D.nxt (L.getD i pw0).1 x) with
      | true =>
        rw [h1, if_pos rfl] at h
        cases h
        exact .now fun m => by rw [key, h1, if_pos rfl]
      | false =>
        rw [h1, if_neg (by decide)] at h
        rw [Bool.or_eq_false_iff] at h1
        cases h2 : known L (D.nxt (L.getD i pw0).1 x) with
        | true =>
          rw [h2, if_pos rfl] at h
          exact .step (fun m => by rw [key, h1.1, h1.2, h2, Bool.or_false, if_neg (by decide), if_pos rfl]) (search_run A B s K0 n i (x + 1) L o r h I W hi (by omega))
        | false =>
          rw [h2, if_neg (by decide)] at h
          refine .step (fun m => by rw [key, h1.1, h1.2, h2, Bool.or_false, if_neg (by decide), if_neg (by decide)]) ?_
          have ih := search_run A B s K0 n i (x + 1) _ _ r h (I.push F hi hx' h1.2 h2) (W.push hm h2 x) (by simp; omega) (by omega)
          rw [List.map_append, getD_snoc, if_pos hi] at ih
          exact ih
    · rw [if_neg c] at h
      have hrow : (L.map (·.1)).length = L.length := List.length_map _
      have key : ∀ m, (run_differ_search K0 (m + 1)).2 i D.K x D.k D.K O D.N D.nx D.ou D.k D.K O' D.M D.nx' D.ou' s.1 s.2 o (L.map (·.1)) 0 0 [] (L.getD i pw0).1.1 (L.getD i pw0).1.2 =
          (run_differ_search K0 m).1 ((i + 1 : Nat) : Int) D.k D.K O D.N D.nx D.ou D.k D.K O' D.M D.nx' D.ou' s.1 s.2 o (L.map (·.1)) 0 0 [] := by
        intro m
        show s_differ_search_13 _ _ _ _ _ _ _ _ _ _ _ _ _ _ _ _ _ _ _ _ _ _ _ _ _ _ _ = _
        unfold s_differ_search_13
        rw [br_neg c, wr _ (by omega) (by omega)]
        rfl
      refine .step key ?_
      by_cases h3 : i + 1 < L.length
      · rw [if_pos h3] at h
        refine .step (fun m => ?_) (search_run A B s K0 n (i + 1) 0 L o r h I W h3 (by omega))
        show s_differ_search_9 (run_differ_search K0 m).1 (run_differ_search K0 m).2 K0 _ _ _ _ _ _ _ _ _ _ _ _ _ _ _ _ _ _ _ _ = _
        unfold s_differ_search_9
        rw [hrow, br_eq' (by omega), br_pos (by omega), Int.toNat_natCast, rows_get]
        rfl
      · rw [if_neg h3] at h
        cases h
        refine .now fun m => ?_
        show s_differ_search_9 (run_differ_search K0 m).1 (run_differ_search K0 m).2 K0 _ _ _ _ _ _ _ _ _ _ _ _ _ _ _ _ _ _ _ _ = _
        unfold s_differ_search_9
        rw [hrow, br_eq (by omega)]

theorem ok_differ_search {R : Type} (a : Int) (a_1 : Int) (a_2 : Int) (a_3 : Int) (a_4 : List Int) (a_5 : List Int) (b : Int) (b_1 : Int) (b_2 : Int) (b_3 : Int) (b_4 : List Int) (b_5 : List Int) (start : Int) (start_1 : Int) (K0 : Bool → (List Int) → Option R) {r : R} (h : l_differ_search a a_1 a_2 a_3 a_4 a_5 b b_1 b_2 b_3 b_4 b_5 start start_1 K0 = some r) : ∃ fuel, e_differ_search (run_differ_search K0 fuel).1 (run_differ_search K0 fuel).2 K0 a a_1 a_2 a_3 a_4 a_5 b b_1 b_2 b_3 b_4 b_5 start start_1 = some r := by
  unfold l_differ_search at h
  rcases bi_some h with ⟨hs, h'⟩ | ⟨_, h'⟩
  · obtain ⟨h1, h2, rfl, rfl, h3, h4⟩ := of_decide_eq_true hs
    have A := checkR_fine.1 h1
    have B := checkR_fine.1 h2
    rw [← h']
    generalize hD : (⟨a, a_1, a_3, b_3, a_4, a_5, b_4, b_5⟩ : Duo) = D
    have F : D.Fine := by subst hD; exact ⟨⟨_, A⟩, ⟨_, B⟩⟩
    have hin : D.inn (start, start_1) := by subst hD; exact ⟨h3, h4⟩
    have go : D.st (start, start_1) = false → Reach (fun m => (run_differ_search K0 m).1 0 a a_1 a_2 a_3 a_4 a_5 a a_1 b_2 b_3 b_4 b_5 start start_1 (mput (.pr (.int .i64) (.int .i64)) (.pr (.pr (.int .i64) (.int .i64)) (.int .i64)) (start, start_1) ((0, 0), 0) ([] : List ((Int × Int) × ((Int × Int) × Int)))) [(start, start_1)] 0 0 ([] : List Int)) (K0 (searchS D (start, start_1)).1 (searchS D (start, start_1)).2) := fun hst => by
      have := search_run (D := D) (O := a_2) (O' := b_2) (by subst hD; exact A) (by subst hD; exact B) (start, start_1) K0 _ 0 0 _ _ _ (searchS_run F hin hst) (Inv.start hin hst) (Ways.start (start, start_1) ((0, 0), 0)) (by simp) (by omega)
      refine .step (fun m => ?_) this
      subst hD
      rw [show (run_differ_search K0 (m + 1)).1 = s_differ_search_9 (run_differ_search K0 m).1 (run_differ_search K0 m).2 K0 from rfl]
      unfold s_differ_search_9
      rw [br_eq' (by simp), br_pos (by simp)]
      rfl
    unfold e_differ_search
    rcases A.fk with hk | hk
    · have g1 := A.fou1 hk
      have g2 := B.fou1 hk
      have hs : D.st (start, start_1) = (a_5.getD start.toNat 0 != b_5.getD start_1.toNat 0) := by subst hD; unfold Duo.st; rw [hk]; rfl
      cases hst : D.st (start, start_1) with
      | true =>
        refine ⟨0, ?_⟩
        rw [br_eq hk, br_pos (by omega), br_pos (by omega), ← hs, hst, br_tt]
        unfold searchS
        rw [if_pos hst]
        try rfl
      | false =>
        obtain ⟨n, hn⟩ := (go hst).get
        refine ⟨n, ?_⟩
        rw [br_eq hk, br_pos (by omega), br_pos (by omega), ← hs, hst, br_ff]
        exact hn
    · have hst : D.st (start, start_1) = false := by subst hD; unfold Duo.st; rw [hk]; rfl
      obtain ⟨n, hn⟩ := (go hst).get
      refine ⟨n, ?_⟩
      rw [br_eq' (by omega)]
      exact hn
  · cases h'

theorem search_eq {R : Type} {D : Duo} {O O' : Int} (A : Fine D.k D.K O D.N D.nx D.ou) (B : Fine D.k D.K O' D.M D.nx' D.ou') {s : Int × Int} (hs : D.inn s) (K0 : Bool → List Int → Option R) :
    l_differ_search D.k D.K O D.N D.nx D.ou D.k D.K O' D.M D.nx' D.ou' s.1 s.2 K0 = K0 (searchS D s).1 (searchS D s).2 := by
  unfold l_differ_search
  rw [br_pos ⟨checkR_fine.2 A, checkR_fine.2 B, rfl, rfl, hs⟩]

/-- tutor/differ.Separate -/
def l_differ_Separate {R : Type} (a : Int) (a_1 : Int) (a_2 : Int) (a_3 : Int) (a_4 : List Int) (a_5 : List Int) (b : Int) (b_1 : Int) (b_2 : Int) (b_3 : Int) (b_4 : List Int) (b_5 : List Int) (K0 : Bool → Int → (List Int) → Option R) : Option R :=
  l_differ_fit a a_1 a_2 a_3 a_4 a_5 b b_1 b_2 b_3 b_4 b_5
   (fun r1 =>
    bi (r1 != 0)
     (K0 false r1 ([] : List Int))
     (l_differ_search a a_1 a_2 a_3 a_4 a_5 b b_1 b_2 b_3 b_4 b_5 0 0
      (fun r2 r3 =>
       K0 r2 0 r3)))

/-- The document's answer, for two machines. -/
def sepS (k K O N : Int) (nx ou : List Int) (k' K' O' N' : Int) (nx' ou' : List Int) : Bool × Int × List Int :=
  if fitS k K O N nx ou k' K' O' N' nx' ou' ≠ 0 then (false, fitS k K O N nx ou k' K' O' N' nx' ou', []) else
    ((searchS ⟨k, K, N, N', nx, ou, nx', ou'⟩ (0, 0)).1, 0, (searchS ⟨k, K, N, N', nx, ou, nx', ou'⟩ (0, 0)).2)

theorem fitS_zero {k K O N : Int} {nx ou : List Int} {k' K' O' N' : Int} {nx' ou' : List Int} (h1 : okL nx) (h2 : okL ou) (h3 : okL nx') (h4 : okL ou') :
    fitS k K O N nx ou k' K' O' N' nx' ou' = 0 ↔ Fine k K O N nx ou ∧ Fine k' K' O' N' nx' ou' ∧ k = k' ∧ K = K' ∧ O = O' := by
  unfold fitS
  rw [checkS_eq h1 h2, checkS_eq h3 h4, ← checkR_fine, ← checkR_fine]
  by_cases c1 : (checkR k K O N nx ou).2 = 0
  · rw [if_neg (by simpa using c1)]
    by_cases c2 : (checkR k' K' O' N' nx' ou').2 = 0
    · rw [if_neg (by simpa using c2)]
      by_cases c3 : k = k'
      · rw [if_neg (by simpa using c3)]
        by_cases c4 : K = K'
        · rw [if_neg (by simpa using c4)]
          by_cases c5 : O = O'
          · rw [if_neg (by simpa using c5)]
            exact ⟨fun _ => ⟨c1, c2, c3, c4, c5⟩, fun _ => rfl⟩
          · rw [if_pos c5]
            exact ⟨fun h => by simp at h, fun h => absurd h.2.2.2.2 c5⟩
        · rw [if_pos c4]
          exact ⟨fun h => by simp at h, fun h => absurd h.2.2.2.1 c4⟩
      · rw [if_pos c3]
        exact ⟨fun h => by simp at h, fun h => absurd h.2.2.1 c3⟩
    · rw [if_pos c2]
      exact ⟨fun h => absurd h c2, fun h => absurd h.2.1 c2⟩
  · rw [if_pos c1]
    exact ⟨fun h => absurd h c1, fun h => absurd h.1 c1⟩

theorem sep_eq {R : Type} {k K O N : Int} {nx ou : List Int} {k' K' O' N' : Int} {nx' ou' : List Int} (h1 : okL nx) (h2 : okL ou) (h3 : okL nx') (h4 : okL ou') (K0 : Bool → Int → List Int → Option R) :
    l_differ_Separate k K O N nx ou k' K' O' N' nx' ou' K0 = K0 (sepS k K O N nx ou k' K' O' N' nx' ou').1 (sepS k K O N nx ou k' K' O' N' nx' ou').2.1 (sepS k K O N nx ou k' K' O' N' nx' ou').2.2 := by
  unfold l_differ_Separate sepS
  rw [fit_eq h1 h2 h3 h4]
  try dsimp only
  by_cases hc : fitS k K O N nx ou k' K' O' N' nx' ou' = 0
  · rw [br_ne' hc, if_neg (by simpa using hc)]
    obtain ⟨A, B, rfl, rfl, rfl⟩ := (fitS_zero h1 h2 h3 h4).1 hc
    have := A.fN
    have := B.fN
    exact search_eq (D := ⟨k, K, N, N', nx, ou, nx', ou'⟩) (s := (0, 0)) A B ⟨by dsimp only; omega, by dsimp only; omega⟩ _
  · rw [br_ne hc, if_pos (by simpa using hc)]

theorem sepS_short {k K O N : Int} {nx ou : List Int} {k' K' O' N' : Int} {nx' ou' : List Int} (h1 : okL nx) (h2 : okL ou) (h3 : okL nx') (h4 : okL ou') : short (sepS k K O N nx ou k' K' O' N' nx' ou').2.2 := by
  unfold sepS
  by_cases hc : fitS k K O N nx ou k' K' O' N' nx' ou' = 0
  · rw [if_neg (by simpa using hc)]
    obtain ⟨A, B, rfl, rfl, rfl⟩ := (fitS_zero h1 h2 h3 h4).1 hc
    have := A.fN
    have := B.fN
    exact searchS_short (D := ⟨k, K, N, N', nx, ou, nx', ou'⟩) (s := (0, 0)) ⟨⟨_, A⟩, ⟨_, B⟩⟩ ⟨by dsimp only; omega, by dsimp only; omega⟩
  · rw [if_pos hc]
    exact (by decide : short ([] : List Int))
theorem sepS_len {k K O N : Int} {nx ou : List Int} {k' K' O' N' : Int} {nx' ou' : List Int} (h1 : okL nx) (h2 : okL ou) (h3 : okL nx') (h4 : okL ou') : (sepS k K O N nx ou k' K' O' N' nx' ou').2.2.length ≤ 1048576 := by
  unfold sepS
  by_cases hc : fitS k K O N nx ou k' K' O' N' nx' ou' = 0
  · rw [if_neg (by simpa using hc)]
    obtain ⟨A, B, rfl, rfl, rfl⟩ := (fitS_zero h1 h2 h3 h4).1 hc
    have a1 := A.fN
    have b1 := B.fN
    have := searchS_len (D := ⟨k, K, N, N', nx, ou, nx', ou'⟩) (s := (0, 0)) ⟨⟨_, A⟩, ⟨_, B⟩⟩ ⟨by dsimp only; omega, by dsimp only; omega⟩
    have m := mul_most a1 b1
    dsimp only at this ⊢
    omega
  · rw [if_pos hc]
    exact Nat.zero_le _

/-- tutor/differ.Apart -/
def l_differ_Apart {R : Type} (m : Int) (m_1 : Int) (m_2 : Int) (m_3 : Int) (m_4 : List Int) (m_5 : List Int) (s : Int) (t : Int) (K0 : Bool → Int → (List Int) → Option R) : Option R :=
  l_machine_Check m m_1 m_2 m_3 m_4 m_5
   (fun r1 r2 =>
    bi (r2 != 0)
     (K0 false r2 ([] : List Int))
     (bi (decide (s < 0))
      (K0 false 32 ([] : List Int))
      (bi (decide (t < 0))
       (K0 false 32 ([] : List Int))
       (bi (decide (s ≥ m_3))
        (K0 false 32 ([] : List Int))
        (bi (decide (t ≥ m_3))
         (K0 false 32 ([] : List Int))
         (l_differ_search m m_1 m_2 m_3 m_4 m_5 m m_1 m_2 m_3 m_4 m_5 s t
          (fun r3 r4 =>
           K0 r3 0 r4)))))))

/-- The document's answer, for two states. -/
def apartS (k K O N : Int) (nx ou : List Int) (s t : Int) : Bool × Int × List Int :=
  if (checkR k K O N nx ou).2 ≠ 0 then (false, (checkR k K O N nx ou).2, []) else if (s < 0 ∨ s ≥ N) ∨ (t < 0 ∨ t ≥ N) then (false, 32, []) else
    ((searchS ⟨k, K, N, N, nx, ou, nx, ou⟩ (s, t)).1, 0, (searchS ⟨k, K, N, N, nx, ou, nx, ou⟩ (s, t)).2)

theorem dapart_eq {R : Type} {k K O N : Int} {nx ou : List Int} {s t : Int} (h1 : okL nx) (h2 : okL ou) (K0 : Bool → Int → List Int → Option R) :
    l_differ_Apart k K O N nx ou s t K0 = K0 (apartS k K O N nx ou s t).1 (apartS k K O N nx ou s t).2.1 (apartS k K O N nx ou s t).2.2 := by
  unfold l_differ_Apart apartS
  rw [check_eq _ _ _ _ _ _ h1.1 h2.1, checkS_eq h1 h2]
  try dsimp only
  by_cases hc : (checkR k K O N nx ou).2 = 0
  · rw [br_ne' hc, if_neg (by simpa using hc)]
    by_cases c1 : s < 0
    · rw [br_pos c1, if_pos (by omega)]
    rw [br_neg c1]
    by_cases c2 : t < 0
    · rw [br_pos c2, if_pos (by omega)]
    rw [br_neg c2]
    by_cases c3 : s ≥ N
    · rw [br_pos c3, if_pos (by omega)]
    rw [br_neg c3]
    by_cases c4 : t ≥ N
    · rw [br_pos c4, if_pos (by omega)]
    rw [br_neg c4, if_neg (by omega)]
    have A := checkR_fine.1 hc
    exact search_eq (D := ⟨k, K, N, N, nx, ou, nx, ou⟩) (s := (s, t)) A A ⟨by dsimp only; omega, by dsimp only; omega⟩ _
  · rw [br_ne hc, if_pos (by simpa using hc)]

/-- tutor/differ.Equal -/
def l_differ_Equal {R : Type} (a : Int) (a_1 : Int) (a_2 : Int) (a_3 : Int) (a_4 : List Int) (a_5 : List Int) (b : Int) (b_1 : Int) (b_2 : Int) (b_3 : Int) (b_4 : List Int) (b_5 : List Int) (K0 : Bool → Int → Option R) : Option R :=
  l_differ_Separate a a_1 a_2 a_3 a_4 a_5 b b_1 b_2 b_3 b_4 b_5
   (fun r1 r2 r3 =>
    bi (r2 == 0)
     (K0 (!r1) r2)
     (K0 false r2))

theorem equal_eq {R : Type} {k K O N : Int} {nx ou : List Int} {k' K' O' N' : Int} {nx' ou' : List Int} (h1 : okL nx) (h2 : okL ou) (h3 : okL nx') (h4 : okL ou') (K0 : Bool → Int → Option R) :
    l_differ_Equal k K O N nx ou k' K' O' N' nx' ou' K0 = K0 (decide ((sepS k K O N nx ou k' K' O' N' nx' ou').2.1 = 0) && !(sepS k K O N nx ou k' K' O' N' nx' ou').1) (sepS k K O N nx ou k' K' O' N' nx' ou').2.1 := by
  unfold l_differ_Equal
  rw [sep_eq h1 h2 h3 h4]
  try dsimp only
  by_cases c : (sepS k K O N nx ou k' K' O' N' nx' ou').2.1 = 0
  · rw [br_eq c, decide_eq_true c, Bool.true_and]
  · rw [br_eq' c, decide_eq_false c, Bool.false_and]

/-- tutor/tutorlaw07.num -/
def l_tutorlaw07_num {R : Type} (e : Int) (K0 : Int → Option R) : Option R :=
  K0 e

/-- tutor/tutorref01.Same -/
def s_tutorref01_Same_4 {R : Type} (g14_4 : (List Int) → (List Int) → Int → Option R) (K0 : Bool → Option R) (a : List Int) (b : List Int) (i : Int) : Option R :=
  bi (decide (i < (a.length : Int)))
   (bi (decide (0 ≤ i ∧ i < ((a.length : Nat) : Int)))
    (bi (decide (0 ≤ i ∧ i < ((b.length : Nat) : Int)))
     (bi ((a.getD i.toNat 0) != (b.getD i.toNat 0))
      (K0 false)
      (g14_4 a b (IntKind.i64.wrap (i + 1))))
     none)
    none)
   (K0 true)

/-- tutor/tutorref01.Same -/
def e_tutorref01_Same {R : Type} (g14_4 : (List Int) → (List Int) → Int → Option R) (K0 : Bool → Option R) (a : List Int) (b : List Int) : Option R :=
  bi ((a.length : Int) != (b.length : Int))
   (K0 false)
   (g14_4 a b 0)

def run_tutorref01_Same {R : Type} (K0 : Bool → Option R) : Nat → (List Int) → (List Int) → Int → Option R
  | 0 => fun _ _ _ => none
  | n + 1 => s_tutorref01_Same_4 (run_tutorref01_Same K0 n) K0

def l_tutorref01_Same {R : Type} (a : List Int) (b : List Int) (K0 : Bool → Option R) : Option R := bi (decide (short a)) (K0 (decide (a = b))) none

theorem findP_zip {a b : List Int} (hl : a.length = b.length) : findP (fun i => a.getD i 0 != b.getD i 0) (List.range a.length) = none ↔ a = b := by
  rw [findP_none]
  constructor
  · intro h
    refine List.ext_getElem hl fun i h1 h2 => ?_
    have := h i (by simpa using h1)
    rw [getD_of 0 h1, getD_of 0 h2] at this
    simpa using this
  · rintro rfl i _
    simp

theorem ok_tutorref01_Same {R : Type} (a : List Int) (b : List Int) (K0 : Bool → Option R) {r : R} (h : l_tutorref01_Same a b K0 = some r) : ∃ fuel, e_tutorref01_Same (run_tutorref01_Same K0 fuel) K0 a b = some r := by
  unfold l_tutorref01_Same at h
  rcases bi_some h with ⟨hs, h⟩ | ⟨_, h⟩
  · have hs : a.length < 4611686018427387904 := of_decide_eq_true hs
    refine ⟨a.length + 1, ?_⟩
    rw [← h]
    unfold e_tutorref01_Same
    by_cases hl : a.length = b.length
    · rw [br_ne' (by omega)]
      have key := scan_all (F := fun m i => run_tutorref01_Same K0 m a b (i : Int)) (fun i => a.getD i 0 != b.getD i 0) (l := List.range a.length) (A := fun i => K0 false) (B := K0 true)
        (fun m => by
          show s_tutorref01_Same_4 _ _ _ _ _ = _
          unfold s_tutorref01_Same_4
          rw [List.length_range, br_neg (by omega)])
        (fun m i hi => by
          rw [List.length_range] at hi
          show s_tutorref01_Same_4 _ _ _ _ _ = _
          unfold s_tutorref01_Same_4
          rw [br_pos (by omega), br_pos (by omega), br_pos (by omega), br_if, Int.toNat_natCast, wr _ (by omega) (by omega), List.getElem_range]
          rfl)
      rw [List.length_range] at key
      refine key.trans ?_
      by_cases e : a = b
      · rw [(findP_zip hl).2 e]
        simp [e]
      · have : findP (fun i => a.getD i 0 != b.getD i 0) (List.range a.length) ≠ none := fun h => e ((findP_zip hl).1 h)
        cases hf : findP (fun i => a.getD i 0 != b.getD i 0) (List.range a.length) with
        | none => exact absurd hf this
        | some j => simp [e]
    · rw [br_ne (by omega)]
      have e : a ≠ b := fun e => hl (by rw [e])
      simp [e]
  · cases h

theorem same_eq {R : Type} {a b : List Int} (h : short a) (K0 : Bool → Option R) : l_tutorref01_Same a b K0 = K0 (decide (a = b)) := by
  unfold l_tutorref01_Same
  rw [br_pos h]

/-- tutor/tutorlaw07.live -/
def l_tutorlaw07_live {R : Type}  (K0 : Bool → Option R) : Option R :=
  l_differ_Separate 1 1 2 2 [1, 0] [0, 1] 1 1 2 3 [1, 2, 0] [0, 1, 1]
   (fun r1 r2 r3 =>
    l_differ_Apart 1 1 2 2 [1, 0] [0, 1] 0 1
     (fun r4 r5 r6 =>
      l_differ_Equal 1 1 2 2 [1, 0] [0, 1] 1 1 2 2 [1, 0] [0, 1]
       (fun r7 r8 =>
        l_tutorlaw07_num r2
         (fun r9 =>
          l_tutorlaw07_num r5
           (fun r10 =>
            l_tutorlaw07_num r8
             (fun r11 =>
              bi ((IntKind.i64.wrap ((IntKind.i64.wrap (r9 + r10)) + r11)) == 0)
               (bi r1
                (l_tutorref01_Same r3 [0, 0]
                 (fun r12 =>
                  bi r12
                   (bi r4
                    (bi ((r6.length : Int) == 0)
                     (K0 r7)
                     (K0 false))
                    (K0 false))
                   (K0 false)))
                (K0 false))
               (K0 false)))))))

theorem live07 {R : Type} (K0 : Bool → Option R) : l_tutorlaw07_live K0 = K0 true := by
  have e1 : sepS 1 1 2 2 [1, 0] [0, 1] 1 1 2 3 [1, 2, 0] [0, 1, 1] = (true, 0, [0, 0]) := by decide +kernel
  have e2 : apartS 1 1 2 2 [1, 0] [0, 1] 0 1 = (true, 0, []) := by decide +kernel
  have e3 : sepS 1 1 2 2 [1, 0] [0, 1] 1 1 2 2 [1, 0] [0, 1] = (false, 0, []) := by decide +kernel
  unfold l_tutorlaw07_live
  rw [sep_eq (by decide) (by decide) (by decide) (by decide), e1]
  try dsimp only
  rw [dapart_eq (by decide) (by decide), e2]
  try dsimp only
  unfold l_differ_Equal
  rw [sep_eq (by decide) (by decide) (by decide) (by decide), e3]
  try dsimp only
  rw [br_eq rfl]
  try dsimp only [l_tutorlaw07_num]
  rw [br_eq (by decide), br_tt, same_eq (by decide)]
  try dsimp only
  rw [br_pos rfl, br_tt]
  rfl

/-- tutor/tutorref03.Check -/
def s_tutorref03_Check_15 {R : Type} (g29_15 : Int → Int → Int → Int → Int → (List Int) → (List Int) → Option R) (g29_20 : Int → Int → Int → Int → Int → (List Int) → (List Int) → Option R) (K0 : Int → Int → Option R) (i : Int) (o0 : Int) (o0_1 : Int) (o0_2 : Int) (o0_3 : Int) (o0_4 : List Int) (o0_5 : List Int) : Option R :=
  bi (decide (i < (o0_4.length : Int)))
   (bi (decide (0 ≤ i ∧ i < ((o0_4.length : Nat) : Int)))
    (bi (decide ((o0_4.getD i.toNat 0) < 0))
     (K0 i 32)
     (bi (decide (0 ≤ i ∧ i < ((o0_4.length : Nat) : Int)))
      (bi (decide ((o0_4.getD i.toNat 0) ≥ o0_3))
       (K0 i 32)
       (g29_15 (IntKind.i64.wrap (i + 1)) o0 o0_1 o0_2 o0_3 o0_4 o0_5))
      none))
    none)
   (g29_20 0 o0 o0_1 o0_2 o0_3 o0_4 o0_5)

/-- tutor/tutorref03.Check -/
def s_tutorref03_Check_20 {R : Type} (g29_15 : Int → Int → Int → Int → Int → (List Int) → (List Int) → Option R) (g29_20 : Int → Int → Int → Int → Int → (List Int) → (List Int) → Option R) (K0 : Int → Int → Option R) (i : Int) (o0 : Int) (o0_1 : Int) (o0_2 : Int) (o0_3 : Int) (o0_4 : List Int) (o0_5 : List Int) : Option R :=
  bi (decide (i < (o0_5.length : Int)))
   (bi (decide (0 ≤ i ∧ i < ((o0_5.length : Nat) : Int)))
    (bi (decide ((o0_5.getD i.toNat 0) < 0))
     (K0 i 33)
     (bi (decide (0 ≤ i ∧ i < ((o0_5.length : Nat) : Int)))
      (bi (decide ((o0_5.getD i.toNat 0) ≥ o0_2))
       (K0 i 33)
       (g29_20 (IntKind.i64.wrap (i + 1)) o0 o0_1 o0_2 o0_3 o0_4 o0_5))
      none))
    none)
   (K0 0 0)

/-- tutor/tutorref03.Check -/
def e_tutorref03_Check {R : Type} (g29_15 : Int → Int → Int → Int → Int → (List Int) → (List Int) → Option R) (g29_20 : Int → Int → Int → Int → Int → (List Int) → (List Int) → Option R) (K0 : Int → Int → Option R) (m : Int) (m_1 : Int) (m_2 : Int) (m_3 : Int) (m_4 : List Int) (m_5 : List Int) : Option R :=
  bi (m != 1)
   (bi (m != 2)
    (K0 0 30)
    (bi (decide (m_1 < 1))
     (K0 0 1)
     (bi (decide (m_1 > 64))
      (K0 0 1)
      (bi (m == 1)
       (bi (m_2 != 2)
        (K0 0 33)
        (bi (decide (m_2 < 1))
         (K0 0 33)
         (bi (decide (m_2 > 64))
          (K0 0 33)
          (bi (decide (m_3 < 1))
           (K0 0 3)
           (bi (decide (m_3 > 1024))
            (K0 0 3)
            (bi (m == 2)
             (bi ((m_4.length : Int) != (IntKind.i64.wrap (m_3 * m_1)))
              (K0 0 31)
              (bi ((m_5.length : Int) != (IntKind.i64.wrap (m_3 * m_1)))
               (K0 0 31)
               (g29_15 0 m m_1 m_2 m_3 m_4 m_5)))
             (bi ((m_4.length : Int) != (IntKind.i64.wrap (m_3 * m_1)))
              (K0 0 31)
              (bi ((m_5.length : Int) != m_3)
               (K0 0 31)
               (g29_15 0 m m_1 m_2 m_3 m_4 m_5)))))))))
       (bi (decide (m_2 < 1))
        (K0 0 33)
        (bi (decide (m_2 > 64))
         (K0 0 33)
         (bi (decide (m_3 < 1))
          (K0 0 3)
          (bi (decide (m_3 > 1024))
           (K0 0 3)
           (bi (m == 2)
            (bi ((m_4.length : Int) != (IntKind.i64.wrap (m_3 * m_1)))
             (K0 0 31)
             (bi ((m_5.length : Int) != (IntKind.i64.wrap (m_3 * m_1)))
              (K0 0 31)
              (g29_15 0 m m_1 m_2 m_3 m_4 m_5)))
            (bi ((m_4.length : Int) != (IntKind.i64.wrap (m_3 * m_1)))
             (K0 0 31)
             (bi ((m_5.length : Int) != m_3)
              (K0 0 31)
              (g29_15 0 m m_1 m_2 m_3 m_4 m_5))))))))))))
   (bi (decide (m_1 < 1))
    (K0 0 1)
    (bi (decide (m_1 > 64))
     (K0 0 1)
     (bi (m == 1)
      (bi (m_2 != 2)
       (K0 0 33)
       (bi (decide (m_2 < 1))
        (K0 0 33)
        (bi (decide (m_2 > 64))
         (K0 0 33)
         (bi (decide (m_3 < 1))
          (K0 0 3)
          (bi (decide (m_3 > 1024))
           (K0 0 3)
           (bi (m == 2)
            (bi ((m_4.length : Int) != (IntKind.i64.wrap (m_3 * m_1)))
             (K0 0 31)
             (bi ((m_5.length : Int) != (IntKind.i64.wrap (m_3 * m_1)))
              (K0 0 31)
              (g29_15 0 m m_1 m_2 m_3 m_4 m_5)))
            (bi ((m_4.length : Int) != (IntKind.i64.wrap (m_3 * m_1)))
             (K0 0 31)
             (bi ((m_5.length : Int) != m_3)
              (K0 0 31)
              (g29_15 0 m m_1 m_2 m_3 m_4 m_5)))))))))
      (bi (decide (m_2 < 1))
       (K0 0 33)
       (bi (decide (m_2 > 64))
        (K0 0 33)
        (bi (decide (m_3 < 1))
         (K0 0 3)
         (bi (decide (m_3 > 1024))
          (K0 0 3)
          (bi (m == 2)
           (bi ((m_4.length : Int) != (IntKind.i64.wrap (m_3 * m_1)))
            (K0 0 31)
            (bi ((m_5.length : Int) != (IntKind.i64.wrap (m_3 * m_1)))
             (K0 0 31)
             (g29_15 0 m m_1 m_2 m_3 m_4 m_5)))
           (bi ((m_4.length : Int) != (IntKind.i64.wrap (m_3 * m_1)))
            (K0 0 31)
            (bi ((m_5.length : Int) != m_3)
             (K0 0 31)
             (g29_15 0 m m_1 m_2 m_3 m_4 m_5)))))))))))

def run_tutorref03_Check {R : Type} (K0 : Int → Int → Option R) : Nat → (Int → Int → Int → Int → Int → (List Int) → (List Int) → Option R) × (Int → Int → Int → Int → Int → (List Int) → (List Int) → Option R)
  | 0 => (fun _ _ _ _ _ _ _ => none, fun _ _ _ _ _ _ _ => none)
  | n + 1 => (s_tutorref03_Check_15 (run_tutorref03_Check K0 n).1 (run_tutorref03_Check K0 n).2 K0, s_tutorref03_Check_20 (run_tutorref03_Check K0 n).1 (run_tutorref03_Check K0 n).2 K0)

def l_tutorref03_Check {R : Type} (k K O N : Int) (nx ou : List Int) (K0 : Int → Int → Option R) : Option R :=
  bi (decide (short nx ∧ short ou)) (K0 (checkR k K O N nx ou).1 (checkR k K O N nx ou).2) none

theorem checkR_head {R : Type} (g1 g2 : Int → Int → Int → Int → Int → List Int → List Int → Option R) (K0 : Int → Int → Option R) (k K O N : Int) (nx ou : List Int) :
    e_tutorref03_Check g1 g2 K0 k K O N nx ou = if headS k K O N nx ou = 0 then g1 0 k K O N nx ou else K0 0 (headS k K O N nx ou) := by
  have L0 : headS k K O N nx ou = 0 → g1 0 k K O N nx ou = if headS k K O N nx ou = 0 then g1 0 k K O N nx ou else K0 0 (headS k K O N nx ou) := fun h => by rw [if_pos h]
  have LK : ∀ c, headS k K O N nx ou = c → c ≠ 0 → K0 0 c = if headS k K O N nx ou = 0 then g1 0 k K O N nx ou else K0 0 (headS k K O N nx ou) := fun c h h0 => by rw [h, if_neg h0]
  unfold e_tutorref03_Check
  simp only [br_if, bne_iff_ne, beq_iff_eq, decide_eq_true_eq, ne_eq]
  by_cases hb : (1 ≤ N ∧ N ≤ 1024) ∧ 1 ≤ K ∧ K ≤ 64
  · have := mulK hb
    rw [wr (N * K) (by omega) (by omega)]
    repeat' (refine ite_l (fun _ => ?_) (fun _ => ?_))
    all_goals first
      | exact LK _ (by unfold headS; repeat' (refine ite_l (fun _ => ?_) (fun _ => ?_)); all_goals omega) (by omega)
      | exact L0 (by unfold headS; repeat' (refine ite_l (fun _ => ?_) (fun _ => ?_)); all_goals omega)
  · repeat' (refine ite_l (fun _ => ?_) (fun _ => ?_))
    all_goals first
      | exact LK _ (by unfold headS; repeat' (refine ite_l (fun _ => ?_) (fun _ => ?_)); all_goals omega) (by omega)
      | exact L0 (by unfold headS; repeat' (refine ite_l (fun _ => ?_) (fun _ => ?_)); all_goals omega)

theorem ok_tutorref03_Check {R : Type} (k K O N : Int) (nx ou : List Int) (K0 : Int → Int → Option R) {r : R} (h : l_tutorref03_Check k K O N nx ou K0 = some r) :
    ∃ fuel, e_tutorref03_Check (run_tutorref03_Check K0 fuel).1 (run_tutorref03_Check K0 fuel).2 K0 k K O N nx ou = some r := by
  unfold l_tutorref03_Check at h
  rcases bi_some h with ⟨hs, h⟩ | ⟨_, h⟩
  · obtain ⟨h1, h2⟩ : nx.length < 4611686018427387904 ∧ ou.length < 4611686018427387904 := of_decide_eq_true hs
    refine ⟨ou.length + 1 + (nx.length + 1), ?_⟩
    rw [← h, checkR_head]
    unfold checkR
    by_cases hh : headS k K O N nx ou = 0
    · rw [if_pos hh, if_neg (by simpa using hh)]
      have key2 : ∀ n, (run_tutorref03_Check K0 (n + (ou.length + 1))).2 0 k K O N nx ou = match findP (outside O) ou with | some i => K0 (i : Int) 33 | none => K0 0 0 := fun n =>
        scan_all (F := fun m i => (run_tutorref03_Check K0 (n + m)).2 (i : Int) k K O N nx ou) (outside O) (l := ou) (A := fun i => K0 i 33) (B := K0 0 0)
          (fun m => by
            show s_tutorref03_Check_20 (run_tutorref03_Check K0 (n + m)).1 (run_tutorref03_Check K0 (n + m)).2 K0 _ _ _ _ _ _ _ = _
            unfold s_tutorref03_Check_20
            rw [br_neg (by omega)])
          (fun m i hi => by
            show s_tutorref03_Check_20 (run_tutorref03_Check K0 (n + m)).1 (run_tutorref03_Check K0 (n + m)).2 K0 _ _ _ _ _ _ _ = _
            unfold s_tutorref03_Check_20
            rw [br_pos (by omega), br_pos (by omega), br_pos (p := 0 ≤ (i : Int) ∧ (i : Int) < ((ou.length : Nat) : Int)) (by omega), Int.toNat_natCast, getD_of 0 hi, wr _ (by omega) (by omega)]
            unfold outside
            cases decide (ou[i] < 0) <;> cases decide (ou[i] ≥ O) <;> rfl)
      have key1 := scan_all (F := fun m i => (run_tutorref03_Check K0 (ou.length + 1 + m)).1 (i : Int) k K O N nx ou) (outside N) (l := nx) (A := fun i => K0 i 32)
        (B := match findP (outside O) ou with | some i => K0 (i : Int) 33 | none => K0 0 0)
          (fun m => by
            show s_tutorref03_Check_15 (run_tutorref03_Check K0 (ou.length + 1 + m)).1 (run_tutorref03_Check K0 (ou.length + 1 + m)).2 K0 _ _ _ _ _ _ _ = _
            unfold s_tutorref03_Check_15
            rw [br_neg (by omega)]
            have := key2 m
            rwa [show m + (ou.length + 1) = ou.length + 1 + m by omega] at this)
          (fun m i hi => by
            show s_tutorref03_Check_15 (run_tutorref03_Check K0 (ou.length + 1 + m)).1 (run_tutorref03_Check K0 (ou.length + 1 + m)).2 K0 _ _ _ _ _ _ _ = _
            unfold s_tutorref03_Check_15
            rw [br_pos (by omega), br_pos (by omega), br_pos (p := 0 ≤ (i : Int) ∧ (i : Int) < ((nx.length : Nat) : Int)) (by omega), Int.toNat_natCast, getD_of 0 hi, wr _ (by omega) (by omega)]
            unfold outside
            cases decide (nx[i] < 0) <;> cases decide (nx[i] ≥ N) <;> rfl)
      refine key1.trans ?_
      cases findP (outside N) nx with
      | some i => rfl
      | none => cases findP (outside O) ou <;> rfl
    · rw [if_neg hh, if_pos (by simpa using hh)]
  · cases h

/-- tutor/tutorref05.now -/
def s_tutorref05_now_4 {R : Type} (g50_4 : Int → Int → Int → Int → Int → Int → Int → (List Int) → (List Int) → Option R) (K0 : Bool → Option R) (s : Int) (t : Int) (x : Int) (o0 : Int) (o0_1 : Int) (o0_2 : Int) (o0_3 : Int) (o0_4 : List Int) (o0_5 : List Int) : Option R :=
  bi (decide (x < o0_1))
   (bi (decide (0 ≤ (IntKind.i64.wrap ((IntKind.i64.wrap (s * o0_1)) + x)) ∧ (IntKind.i64.wrap ((IntKind.i64.wrap (s * o0_1)) + x)) < ((o0_5.length : Nat) : Int)))
    (bi (decide (0 ≤ (IntKind.i64.wrap ((IntKind.i64.wrap (t * o0_1)) + x)) ∧ (IntKind.i64.wrap ((IntKind.i64.wrap (t * o0_1)) + x)) < ((o0_5.length : Nat) : Int)))
     (bi ((o0_5.getD ((IntKind.i64.wrap ((IntKind.i64.wrap (s * o0_1)) + x)).toNat) 0) != (o0_5.getD ((IntKind.i64.wrap ((IntKind.i64.wrap (t * o0_1)) + x)).toNat) 0))
      (K0 false)
      (g50_4 s t (IntKind.i64.wrap (x + 1)) o0 o0_1 o0_2 o0_3 o0_4 o0_5))
     none)
    none)
   (K0 true)

/-- tutor/tutorref05.now -/
def e_tutorref05_now {R : Type} (g50_4 : Int → Int → Int → Int → Int → Int → Int → (List Int) → (List Int) → Option R) (K0 : Bool → Option R) (m : Int) (m_1 : Int) (m_2 : Int) (m_3 : Int) (m_4 : List Int) (m_5 : List Int) (s : Int) (t : Int) : Option R :=
  bi (m == 1)
   (bi (decide (0 ≤ s ∧ s < ((m_5.length : Nat) : Int)))
    (bi (decide (0 ≤ t ∧ t < ((m_5.length : Nat) : Int)))
     (K0 ((m_5.getD s.toNat 0) == (m_5.getD t.toNat 0)))
     none)
    none)
   (g50_4 s t 0 m m_1 m_2 m_3 m_4 m_5)

def run_tutorref05_now {R : Type} (K0 : Bool → Option R) : Nat → Int → Int → Int → Int → Int → Int → Int → (List Int) → (List Int) → Option R
  | 0 => fun _ _ _ _ _ _ _ _ _ => none
  | n + 1 => s_tutorref05_now_4 (run_tutorref05_now K0 n) K0

def l_tutorref05_now {R : Type} (m : Int) (m_1 : Int) (m_2 : Int) (m_3 : Int) (m_4 : List Int) (m_5 : List Int) (s : Int) (t : Int) (K0 : Bool → Option R) : Option R :=
  bi (decide ((checkR m m_1 m_2 m_3 m_4 m_5).2 = 0 ∧ (0 ≤ s ∧ s < m_3) ∧ (0 ≤ t ∧ t < m_3))) (K0 (now5 m m_1 m_5 s t)) none

theorem ok_tutorref05_now {R : Type} (m : Int) (m_1 : Int) (m_2 : Int) (m_3 : Int) (m_4 : List Int) (m_5 : List Int) (s : Int) (t : Int) (K0 : Bool → Option R) {r : R} (h : l_tutorref05_now m m_1 m_2 m_3 m_4 m_5 s t K0 = some r) : ∃ fuel, e_tutorref05_now (run_tutorref05_now K0 fuel) K0 m m_1 m_2 m_3 m_4 m_5 s t = some r := by
  unfold l_tutorref05_now at h
  rcases bi_some h with ⟨hs, h'⟩ | ⟨_, h'⟩
  · obtain ⟨hc, h1, h2⟩ := of_decide_eq_true hs
    have F := checkR_fine.1 hc
    have hK := F.fK
    have hNK := mulK ⟨F.fN, F.fK⟩
    rw [← h']
    unfold e_tutorref05_now now5
    by_cases hk : m = 1
    · have := F.fou1 hk
      exact ⟨0, by rw [br_eq hk, br_pos (by omega), br_pos (by omega), if_pos hk]⟩
    · have h3 := F.fou2 (F.fk.resolve_left hk)
      have hl : (List.range m_1.toNat).length = m_1.toNat := List.length_range
      refine ⟨m_1.toNat + 1, ?_⟩
      rw [br_eq' hk, if_neg hk]
      have key := scan_all (F := fun n i => run_tutorref05_now K0 n s t (i : Int) m m_1 m_2 m_3 m_4 m_5) (fun x : Nat => m_5.getD (s * m_1 + x).toNat 0 != m_5.getD (t * m_1 + x).toNat 0) (l := List.range m_1.toNat) (A := fun i => K0 false) (B := K0 true)
        (fun n => by
          show s_tutorref05_now_4 (run_tutorref05_now K0 n) _ _ _ _ _ _ _ _ _ _ = _
          unfold s_tutorref05_now_4
          rw [br_neg (by omega)])
        (fun n i hi => by
          have hi' : i < m_1.toNat := by omega
          have i1 := idx_in h1 (x := (i : Int)) (K := m_1) (by omega)
          have i2 := idx_in h2 (x := (i : Int)) (K := m_1) (by omega)
          show s_tutorref05_now_4 (run_tutorref05_now K0 n) _ _ _ _ _ _ _ _ _ _ = _
          unfold s_tutorref05_now_4
          rw [br_pos (by omega), wr (s * m_1) (by omega) (by omega), wr (t * m_1) (by omega) (by omega), wr (s * m_1 + i) (by omega) (by omega), wr (t * m_1 + i) (by omega) (by omega), br_pos (by omega), br_pos (by omega), wr ((i : Int) + 1) (by omega) (by omega), br_if, List.getElem_range]
          rfl)
      rw [hl] at key
      refine key.trans ?_
      cases findP (fun x : Nat => m_5.getD (s * m_1 + x).toNat 0 != m_5.getD (t * m_1 + x).toNat 0) (List.range m_1.toNat) <;> rfl
  · cases h'

theorem now5_eq {R : Type} {k K O N : Int} {nx ou : List Int} (F : Fine k K O N nx ou) {s t : Int} (hs : 0 ≤ s ∧ s < N) (ht : 0 ≤ t ∧ t < N) (K0 : Bool → Option R) : l_tutorref05_now k K O N nx ou s t K0 = K0 (now5 k K ou s t) := by
  unfold l_tutorref05_now
  rw [br_pos ⟨checkR_fine.2 F, hs, ht⟩]

/-- tutor/tutorref05.start -/
def s_tutorref05_start_3 {R : Type} (g34_3 : Int → Int → Int → Int → Int → (List Int) → (List Int) → (List (List Bool)) → Option R) (g34_7 : Int → Int → Int → Int → Int → Int → (List Int) → (List Int) → (List (List Bool)) → (List Bool) → Option R) (K0 : (List (List Bool)) → Option R) (s : Int) (o0 : Int) (o0_1 : Int) (o0_2 : Int) (o0_3 : Int) (o0_4 : List Int) (o0_5 : List Int) (o1 : List (List Bool)) : Option R :=
  bi (decide (s < o0_3))
   (bi (decide (0 ≤ o0_3 ∧ o0_3 ≤ o0_3 ∧ o0_3 ≤ 1073741824))
    (g34_7 s 0 o0 o0_1 o0_2 o0_3 o0_4 o0_5 o1 (List.replicate o0_3.toNat (false : Bool)))
    none)
   (K0 o1)

/-- tutor/tutorref05.start -/
def s_tutorref05_start_7 {R : Type} (g34_3 : Int → Int → Int → Int → Int → (List Int) → (List Int) → (List (List Bool)) → Option R) (g34_7 : Int → Int → Int → Int → Int → Int → (List Int) → (List Int) → (List (List Bool)) → (List Bool) → Option R) (K0 : (List (List Bool)) → Option R) (s : Int) (t : Int) (o0 : Int) (o0_1 : Int) (o0_2 : Int) (o0_3 : Int) (o0_4 : List Int) (o0_5 : List Int) (o1 : List (List Bool)) (o2 : List Bool) : Option R :=
  bi (decide (t < o0_3))
   (bi (o0 == 1)
    (l_tutorref05_now o0 o0_1 o0_2 o0_3 o0_4 o0_5 s t
     (fun r1 =>
      bi (decide (0 ≤ t ∧ t < ((o2.length : Nat) : Int)))
       (g34_7 s (IntKind.i64.wrap (t + 1)) o0 o0_1 o0_2 o0_3 o0_4 o0_5 o1 (o2.set t.toNat (!r1)))
       none))
    (bi (decide (0 ≤ t ∧ t < ((o2.length : Nat) : Int)))
     (g34_7 s (IntKind.i64.wrap (t + 1)) o0 o0_1 o0_2 o0_3 o0_4 o0_5 o1 (o2.set t.toNat false))
     none))
   (bi (decide ((o1.length + [o2].length) * 24 ≤ lim))
    (g34_3 (IntKind.i64.wrap (s + 1)) o0 o0_1 o0_2 o0_3 o0_4 o0_5 (o1 ++ [o2]))
    none)

/-- tutor/tutorref05.start -/
def e_tutorref05_start {R : Type} (g34_3 : Int → Int → Int → Int → Int → (List Int) → (List Int) → (List (List Bool)) → Option R) (g34_7 : Int → Int → Int → Int → Int → Int → (List Int) → (List Int) → (List (List Bool)) → (List Bool) → Option R) (K0 : (List (List Bool)) → Option R) (m : Int) (m_1 : Int) (m_2 : Int) (m_3 : Int) (m_4 : List Int) (m_5 : List Int) : Option R :=
  g34_3 0 m m_1 m_2 m_3 m_4 m_5 ([] : List (List Bool))

def run_tutorref05_start {R : Type} (K0 : (List (List Bool)) → Option R) : Nat → (Int → Int → Int → Int → Int → (List Int) → (List Int) → (List (List Bool)) → Option R) × (Int → Int → Int → Int → Int → Int → (List Int) → (List Int) → (List (List Bool)) → (List Bool) → Option R)
  | 0 => (fun _ _ _ _ _ _ _ _ => none, fun _ _ _ _ _ _ _ _ _ _ => none)
  | n + 1 => (s_tutorref05_start_3 (run_tutorref05_start K0 n).1 (run_tutorref05_start K0 n).2 K0, s_tutorref05_start_7 (run_tutorref05_start K0 n).1 (run_tutorref05_start K0 n).2 K0)

def l_tutorref05_start {R : Type} (m : Int) (m_1 : Int) (m_2 : Int) (m_3 : Int) (m_4 : List Int) (m_5 : List Int) (K0 : (List (List Bool)) → Option R) : Option R :=
  bi (decide ((checkR m m_1 m_2 m_3 m_4 m_5).2 = 0)) (K0 (mat m_3.toNat (apart0 m m_1 m_5))) none

theorem start_in {R : Type} {k K O N : Int} {nx ou : List Int} (F : Fine k K O N nx ou) (K0 : (List (List Bool)) → Option R) {v : Option R} {s : Nat} (hs : (s : Int) < N) {o1 : List (List Bool)} (ho : o1.length ≤ 1024)
    (h : Reach (fun m => (run_tutorref05_start K0 m).1 ((s + 1 : Nat) : Int) k K O N nx ou (o1 ++ [(List.range N.toNat).map (apart0 k K ou s)])) v) :
    ∀ (d t : Nat), t + d = N.toNat → Reach (fun m => (run_tutorref05_start K0 m).2 s t k K O N nx ou o1 (prow N.toNat (apart0 k K ou s) t false)) v := by
  have hN := F.fN
  intro d
  induction d with
  | zero =>
    intro t ht
    refine .step (fun m => ?_) h
    rw [show (run_tutorref05_start K0 (m + 1)).2 = s_tutorref05_start_7 (run_tutorref05_start K0 m).1 (run_tutorref05_start K0 m).2 K0 from rfl]
    unfold s_tutorref05_start_7
    have e : t = N.toNat := by omega
    subst e
    rw [br_neg (by omega), prow_end, br_pos (by
      show (o1.length + 1) * 24 ≤ 140737488355328
      omega), wr _ (by omega) (by omega)]
    rfl
  | succ d ih =>
    intro t ht
    refine .step (fun m => ?_) (ih (t + 1) (by omega))
    rw [show (run_tutorref05_start K0 (m + 1)).2 = s_tutorref05_start_7 (run_tutorref05_start K0 m).1 (run_tutorref05_start K0 m).2 K0 from rfl]
    unfold s_tutorref05_start_7
    rw [br_pos (by omega), prow_len, wr ((t : Int) + 1) (by omega) (by omega), ← prow_next, Int.toNat_natCast]
    simp only [prow_set]
    by_cases hk : k = 1
    · rw [br_eq hk, now5_eq F ⟨by omega, hs⟩ ⟨by omega, by omega⟩]
      try dsimp only
      rw [br_pos (by omega), show apart0 k K ou s t = !(now5 k K ou s t) by unfold apart0; rw [hk]; rfl]
      rfl
    · rw [br_eq' hk, br_pos (by omega), show apart0 k K ou s t = false by unfold apart0; rw [show (k == 1) = false by simpa using hk]; rfl]
      rfl

theorem start_out {R : Type} {k K O N : Int} {nx ou : List Int} (F : Fine k K O N nx ou) (K0 : (List (List Bool)) → Option R) : ∀ (d s : Nat), s + d = N.toNat →
    Reach (fun m => (run_tutorref05_start K0 m).1 s k K O N nx ou ((mat N.toNat (apart0 k K ou)).take s)) (K0 (mat N.toNat (apart0 k K ou))) := by
  have hN := F.fN
  intro d
  induction d with
  | zero =>
    intro s hs
    refine .now fun m => ?_
    rw [show (run_tutorref05_start K0 (m + 1)).1 = s_tutorref05_start_3 (run_tutorref05_start K0 m).1 (run_tutorref05_start K0 m).2 K0 from rfl]
    unfold s_tutorref05_start_3
    rw [br_neg (by omega), List.take_of_length_le (by rw [mat_len]; omega)]
  | succ d ih =>
    intro s hs
    have := ih (s + 1) (by omega)
    rw [mat_take (by omega)] at this
    refine .step (fun m => ?_) (start_in F K0 (s := s) (by omega) (by rw [List.length_take, mat_len]; omega) this N.toNat 0 (by omega))
    rw [show (run_tutorref05_start K0 (m + 1)).1 = s_tutorref05_start_3 (run_tutorref05_start K0 m).1 (run_tutorref05_start K0 m).2 K0 from rfl]
    unfold s_tutorref05_start_3
    rw [br_pos (by omega), br_pos (by omega), prow_zero N.toNat (apart0 k K ou s)]
    rfl

theorem ok_tutorref05_start {R : Type} (m : Int) (m_1 : Int) (m_2 : Int) (m_3 : Int) (m_4 : List Int) (m_5 : List Int) (K0 : (List (List Bool)) → Option R) {r : R} (h : l_tutorref05_start m m_1 m_2 m_3 m_4 m_5 K0 = some r) : ∃ fuel, e_tutorref05_start (run_tutorref05_start K0 fuel).1 (run_tutorref05_start K0 fuel).2 K0 m m_1 m_2 m_3 m_4 m_5 = some r := by
  unfold l_tutorref05_start at h
  rcases bi_some h with ⟨hs, h'⟩ | ⟨_, h'⟩
  · have F := checkR_fine.1 (of_decide_eq_true hs)
    rw [← h']
    obtain ⟨n, hn⟩ := (start_out F K0 m_3.toNat 0 (by omega)).get
    exact ⟨n, hn⟩
  · cases h'

/-- tutor/tutorref05.round -/
def s_tutorref05_round_4 {R : Type} (g35_4 : (List (List Bool)) → Bool → Bool → Int → Int → Int → Int → Int → (List Int) → (List Int) → (List (List Bool)) → Option R) (g35_8 : (List (List Bool)) → Bool → Bool → Int → Int → Int → Int → Int → Int → (List Int) → (List Int) → (List (List Bool)) → (List Bool) → Option R) (g35_12 : (List (List Bool)) → Bool → Bool → Int → Int → Int → Int → Int → Int → Int → (List Int) → (List Int) → (List (List Bool)) → (List Bool) → Option R) (K0 : Bool → (List (List Bool)) → Option R) (apart : List (List Bool)) (first : Bool) (more : Bool) (s : Int) (o0 : Int) (o0_1 : Int) (o0_2 : Int) (o0_3 : Int) (o0_4 : List Int) (o0_5 : List Int) (o1 : List (List Bool)) : Option R :=
  bi (decide (s < o0_3))
   (bi (decide (0 ≤ o0_3 ∧ o0_3 ≤ o0_3 ∧ o0_3 ≤ 1073741824))
    (g35_8 apart first more s 0 o0 o0_1 o0_2 o0_3 o0_4 o0_5 o1 (List.replicate o0_3.toNat (false : Bool)))
    none)
   (K0 more o1)

/-- tutor/tutorref05.round -/
def s_tutorref05_round_8 {R : Type} (g35_4 : (List (List Bool)) → Bool → Bool → Int → Int → Int → Int → Int → (List Int) → (List Int) → (List (List Bool)) → Option R) (g35_8 : (List (List Bool)) → Bool → Bool → Int → Int → Int → Int → Int → Int → (List Int) → (List Int) → (List (List Bool)) → (List Bool) → Option R) (g35_12 : (List (List Bool)) → Bool → Bool → Int → Int → Int → Int → Int → Int → Int → (List Int) → (List Int) → (List (List Bool)) → (List Bool) → Option R) (K0 : Bool → (List (List Bool)) → Option R) (apart : List (List Bool)) (first : Bool) (more : Bool) (s : Int) (t : Int) (o0 : Int) (o0_1 : Int) (o0_2 : Int) (o0_3 : Int) (o0_4 : List Int) (o0_5 : List Int) (o1 : List (List Bool)) (o2 : List Bool) : Option R :=
  bi (decide (t < o0_3))
   (bi (decide (0 ≤ s ∧ s < ((apart.length : Nat) : Int)))
    (bi (decide (0 ≤ t ∧ t < (((apart.getD s.toNat []).length : Nat) : Int)))
     (bi ((apart.getD s.toNat []).getD t.toNat false)
      (bi (decide (0 ≤ t ∧ t < ((o2.length : Nat) : Int)))
       (g35_12 apart first more s t 0 o0 o0_1 o0_2 o0_3 o0_4 o0_5 o1 (o2.set t.toNat true))
       none)
      (bi first
       (l_tutorref05_now o0 o0_1 o0_2 o0_3 o0_4 o0_5 s t
        (fun r1 =>
         bi (decide (0 ≤ t ∧ t < ((o2.length : Nat) : Int)))
          (g35_12 apart first more s t 0 o0 o0_1 o0_2 o0_3 o0_4 o0_5 o1 (o2.set t.toNat (!r1)))
          none))
       (bi (decide (0 ≤ t ∧ t < ((o2.length : Nat) : Int)))
        (g35_12 apart first more s t 0 o0 o0_1 o0_2 o0_3 o0_4 o0_5 o1 (o2.set t.toNat false))
        none)))
     none)
    none)
   (bi (decide ((o1.length + [o2].length) * 24 ≤ lim))
    (g35_4 apart first more (IntKind.i64.wrap (s + 1)) o0 o0_1 o0_2 o0_3 o0_4 o0_5 (o1 ++ [o2]))
    none)

/-- tutor/tutorref05.round -/
def s_tutorref05_round_12 {R : Type} (g35_4 : (List (List Bool)) → Bool → Bool → Int → Int → Int → Int → Int → (List Int) → (List Int) → (List (List Bool)) → Option R) (g35_8 : (List (List Bool)) → Bool → Bool → Int → Int → Int → Int → Int → Int → (List Int) → (List Int) → (List (List Bool)) → (List Bool) → Option R) (g35_12 : (List (List Bool)) → Bool → Bool → Int → Int → Int → Int → Int → Int → Int → (List Int) → (List Int) → (List (List Bool)) → (List Bool) → Option R) (K0 : Bool → (List (List Bool)) → Option R) (apart : List (List Bool)) (first : Bool) (more : Bool) (s : Int) (t : Int) (x : Int) (o0 : Int) (o0_1 : Int) (o0_2 : Int) (o0_3 : Int) (o0_4 : List Int) (o0_5 : List Int) (o1 : List (List Bool)) (o2 : List Bool) : Option R :=
  bi (decide (x < o0_1))
   (bi (decide (0 ≤ t ∧ t < ((o2.length : Nat) : Int)))
    (bi (!(o2.getD t.toNat false))
     (bi (decide (0 ≤ (IntKind.i64.wrap ((IntKind.i64.wrap (s * o0_1)) + x)) ∧ (IntKind.i64.wrap ((IntKind.i64.wrap (s * o0_1)) + x)) < ((o0_4.length : Nat) : Int)))
      (bi (decide (0 ≤ (o0_4.getD ((IntKind.i64.wrap ((IntKind.i64.wrap (s * o0_1)) + x)).toNat) 0) ∧ (o0_4.getD ((IntKind.i64.wrap ((IntKind.i64.wrap (s * o0_1)) + x)).toNat) 0) < ((apart.length : Nat) : Int)))
       (bi (decide (0 ≤ (IntKind.i64.wrap ((IntKind.i64.wrap (t * o0_1)) + x)) ∧ (IntKind.i64.wrap ((IntKind.i64.wrap (t * o0_1)) + x)) < ((o0_4.length : Nat) : Int)))
        (bi (decide (0 ≤ (o0_4.getD ((IntKind.i64.wrap ((IntKind.i64.wrap (t * o0_1)) + x)).toNat) 0) ∧ (o0_4.getD ((IntKind.i64.wrap ((IntKind.i64.wrap (t * o0_1)) + x)).toNat) 0) < (((apart.getD ((o0_4.getD ((IntKind.i64.wrap ((IntKind.i64.wrap (s * o0_1)) + x)).toNat) 0).toNat) []).length : Nat) : Int)))
         (bi (decide (0 ≤ t ∧ t < ((o2.length : Nat) : Int)))
          (g35_12 apart first more s t (IntKind.i64.wrap (x + 1)) o0 o0_1 o0_2 o0_3 o0_4 o0_5 o1 (o2.set t.toNat ((apart.getD ((o0_4.getD ((IntKind.i64.wrap ((IntKind.i64.wrap (s * o0_1)) + x)).toNat) 0).toNat) []).getD ((o0_4.getD ((IntKind.i64.wrap ((IntKind.i64.wrap (t * o0_1)) + x)).toNat) 0).toNat) false)))
          none)
         none)
        none)
       none)
      none)
     (bi more
      (g35_8 apart first true s (IntKind.i64.wrap (t + 1)) o0 o0_1 o0_2 o0_3 o0_4 o0_5 o1 o2)
      (bi (decide (0 ≤ t ∧ t < ((o2.length : Nat) : Int)))
       (bi (decide (0 ≤ s ∧ s < ((apart.length : Nat) : Int)))
        (bi (decide (0 ≤ t ∧ t < (((apart.getD s.toNat []).length : Nat) : Int)))
         (g35_8 apart first (!((o2.getD t.toNat false) == ((apart.getD s.toNat []).getD t.toNat false))) s (IntKind.i64.wrap (t + 1)) o0 o0_1 o0_2 o0_3 o0_4 o0_5 o1 o2)
         none)
        none)
       none)))
    none)
   (bi more
    (g35_8 apart first true s (IntKind.i64.wrap (t + 1)) o0 o0_1 o0_2 o0_3 o0_4 o0_5 o1 o2)
    (bi (decide (0 ≤ t ∧ t < ((o2.length : Nat) : Int)))
     (bi (decide (0 ≤ s ∧ s < ((apart.length : Nat) : Int)))
      (bi (decide (0 ≤ t ∧ t < (((apart.getD s.toNat []).length : Nat) : Int)))
       (g35_8 apart first (!((o2.getD t.toNat false) == ((apart.getD s.toNat []).getD t.toNat false))) s (IntKind.i64.wrap (t + 1)) o0 o0_1 o0_2 o0_3 o0_4 o0_5 o1 o2)
       none)
      none)
     none))

/-- tutor/tutorref05.round -/
def e_tutorref05_round {R : Type} (g35_4 : (List (List Bool)) → Bool → Bool → Int → Int → Int → Int → Int → (List Int) → (List Int) → (List (List Bool)) → Option R) (g35_8 : (List (List Bool)) → Bool → Bool → Int → Int → Int → Int → Int → Int → (List Int) → (List Int) → (List (List Bool)) → (List Bool) → Option R) (g35_12 : (List (List Bool)) → Bool → Bool → Int → Int → Int → Int → Int → Int → Int → (List Int) → (List Int) → (List (List Bool)) → (List Bool) → Option R) (K0 : Bool → (List (List Bool)) → Option R) (m : Int) (m_1 : Int) (m_2 : Int) (m_3 : Int) (m_4 : List Int) (m_5 : List Int) (apart : List (List Bool)) (first : Bool) : Option R :=
  g35_4 apart first false 0 m m_1 m_2 m_3 m_4 m_5 ([] : List (List Bool))

def run_tutorref05_round {R : Type} (K0 : Bool → (List (List Bool)) → Option R) : Nat → ((List (List Bool)) → Bool → Bool → Int → Int → Int → Int → Int → (List Int) → (List Int) → (List (List Bool)) → Option R) × ((List (List Bool)) → Bool → Bool → Int → Int → Int → Int → Int → Int → (List Int) → (List Int) → (List (List Bool)) → (List Bool) → Option R) × ((List (List Bool)) → Bool → Bool → Int → Int → Int → Int → Int → Int → Int → (List Int) → (List Int) → (List (List Bool)) → (List Bool) → Option R)
  | 0 => (fun _ _ _ _ _ _ _ _ _ _ _ => none, fun _ _ _ _ _ _ _ _ _ _ _ _ _ => none, fun _ _ _ _ _ _ _ _ _ _ _ _ _ _ => none)
  | n + 1 => (s_tutorref05_round_4 (run_tutorref05_round K0 n).1 (run_tutorref05_round K0 n).2.1 (run_tutorref05_round K0 n).2.2 K0, s_tutorref05_round_8 (run_tutorref05_round K0 n).1 (run_tutorref05_round K0 n).2.1 (run_tutorref05_round K0 n).2.2 K0, s_tutorref05_round_12 (run_tutorref05_round K0 n).1 (run_tutorref05_round K0 n).2.1 (run_tutorref05_round K0 n).2.2 K0)

def l_tutorref05_round {R : Type} (m : Int) (m_1 : Int) (m_2 : Int) (m_3 : Int) (m_4 : List Int) (m_5 : List Int) (apart : List (List Bool)) (first : Bool) (K0 : Bool → (List (List Bool)) → Option R) : Option R :=
  bi (decide ((checkR m m_1 m_2 m_3 m_4 m_5).2 = 0 ∧ apart = mat m_3.toNat (ofM apart) ∧ first = (m == 2))) (K0 (moreS m_3.toNat (ofM apart) (apart1 m m_1 m_4 m_5 (ofM apart)) m_3.toNat) (mat m_3.toNat (apart1 m m_1 m_4 m_5 (ofM apart)))) none

section
variable {R : Type} {k K O N : Int} {nx ou : List Int} {f : Nat → Nat → Bool}

theorem step_in (F : Fine k K O N nx ou) {s x : Nat} (hs : (s : Int) < N) (hx : (x : Int) < K) : (0 ≤ (s : Int) * K ∧ 0 ≤ (s : Int) * K + x ∧ (s : Int) * K + x < nx.length ∧ (s : Int) * K + x < N * K) ∧ 0 ≤ nx.getD ((s : Int) * K + x).toNat 0 ∧ nx.getD ((s : Int) * K + x).toNat 0 < N := by
  have h1 := idx_in (s := (s : Int)) (x := (x : Int)) (N := N) (K := K) ⟨by omega, hs⟩ ⟨by omega, hx⟩
  have h2 := F.fnx
  refine ⟨by omega, ?_⟩
  rw [getD_of 0 (by omega)]
  exact F.fnxs _ (List.getElem_mem _)

/-- The symbols, one by one; and what is done behind them. -/
theorem round_x (F : Fine k K O N nx ou) (K0 : Bool → (List (List Bool)) → Option R) {s t : Nat} (hs : (s : Int) < N) (ht : (t : Int) < N) {more first : Bool} {o1 : List (List Bool)} {v : Option R} {g : Nat → Bool} {b0 : Bool} (hg : g t = anyX K nx f s t K.toNat b0)
    (h : Reach (fun m => (run_tutorref05_round K0 m).2.1 (mat N.toNat f) first (more || (g t != f s t)) s ((t + 1 : Nat) : Int) k K O N nx ou o1 (prow N.toNat g (t + 1) false)) v) :
    ∀ (d x : Nat), x + d = K.toNat → Reach (fun m => (run_tutorref05_round K0 m).2.2 (mat N.toNat f) first more s t x k K O N nx ou o1 (prow N.toNat g t (anyX K nx f s t x b0))) v := by
  have hN := F.fN
  have hK := F.fK
  have hNK := mulK ⟨hN, hK⟩
  have hsn : s < N.toNat := by omega
  have htn : t < N.toNat := by omega
  -- behind the symbols
  have fin : ∀ (X : Option R) (m : Nat), X = (run_tutorref05_round K0 m).2.1 (mat N.toNat f) first (more || (g t != f s t)) s ((t + 1 : Nat) : Int) k K O N nx ou o1 (prow N.toNat g (t + 1) false) → X = (fun m => (run_tutorref05_round K0 m).2.1 (mat N.toNat f) first (more || (g t != f s t)) s ((t + 1 : Nat) : Int) k K O N nx ou o1 (prow N.toNat g (t + 1) false)) m := fun _ _ h => h
  have tail : ∀ (m : Nat) (b : Bool), b = g t → bi more ((run_tutorref05_round K0 m).2.1 (mat N.toNat f) first true s (IntKind.i64.wrap ((t : Int) + 1)) k K O N nx ou o1 (prow N.toNat g t b))
      (bi (decide (0 ≤ (t : Int) ∧ (t : Int) < (((prow N.toNat g t b).length : Nat) : Int)))
       (bi (decide (0 ≤ (s : Int) ∧ (s : Int) < (((mat N.toNat f).length : Nat) : Int)))
        (bi (decide (0 ≤ (t : Int) ∧ (t : Int) < ((((mat N.toNat f).getD (s : Int).toNat []).length : Nat) : Int)))
         ((run_tutorref05_round K0 m).2.1 (mat N.toNat f) first (!(((prow N.toNat g t b).getD (t : Int).toNat false) == (((mat N.toNat f).getD (s : Int).toNat []).getD (t : Int).toNat false))) s (IntKind.i64.wrap ((t : Int) + 1)) k K O N nx ou o1 (prow N.toNat g t b)) none) none) none) =
      (run_tutorref05_round K0 m).2.1 (mat N.toNat f) first (more || (g t != f s t)) s ((t + 1 : Nat) : Int) k K O N nx ou o1 (prow N.toNat g (t + 1) false) := by
    intro m b hb
    subst hb
    rw [wr ((t : Int) + 1) (by omega) (by omega), prow_len, mat_len, Int.toNat_natCast, Int.toNat_natCast, mat_rlen hsn, prow_get htn, mat_get hsn htn, prow_next]
    cases more with
    | true => rw [br_tt]; rfl
    | false =>
      rw [br_ff, br_pos (by omega), br_pos (by omega), br_pos (by omega)]
      rfl
  intro d
  induction d with
  | zero =>
    intro x hx
    have e : x = K.toNat := by omega
    subst e
    refine .step (fun m => ?_) h
    rw [show (run_tutorref05_round K0 (m + 1)).2.2 = s_tutorref05_round_12 (run_tutorref05_round K0 m).1 (run_tutorref05_round K0 m).2.1 (run_tutorref05_round K0 m).2.2 K0 from rfl]
    unfold s_tutorref05_round_12
    rw [br_neg (by omega)]
    exact tail m _ hg.symm
  | succ d ih =>
    intro x hx
    have hxK : (x : Int) < K := by omega
    cases hb : anyX K nx f s t x b0 with
    | true =>
      have hgt : g t = true := by
        rw [hg]
        exact anyX_up (n := x) (by omega) hb
      refine .step (fun m => ?_) h
      rw [show (run_tutorref05_round K0 (m + 1)).2.2 = s_tutorref05_round_12 (run_tutorref05_round K0 m).1 (run_tutorref05_round K0 m).2.1 (run_tutorref05_round K0 m).2.2 K0 from rfl]
      unfold s_tutorref05_round_12
      rw [br_pos hxK, br_pos (by rw [prow_len]; omega), show ((prow N.toNat g t true).getD (t : Int).toNat false) = true by rw [Int.toNat_natCast, prow_get htn], show (!true) = false from rfl, br_ff]
      have h3 := tail m true hgt.symm
      rw [show ((prow N.toNat g t true).getD (t : Int).toNat false) = true by rw [Int.toNat_natCast, prow_get htn]] at h3
      exact h3
    | false =>
      have ih' := ih (x + 1) (by omega)
      have e : anyX K nx f s t (x + 1) b0 = f (nx.getD ((s : Int) * K + x).toNat 0).toNat (nx.getD ((t : Int) * K + x).toNat 0).toNat := by
        simp only [anyX]
        rw [hb, Bool.false_or]
      obtain ⟨i1, n1, n2⟩ := step_in F hs hxK
      obtain ⟨i2, n3, n4⟩ := step_in F ht hxK
      refine .step (fun m => ?_) ih'
      rw [show (run_tutorref05_round K0 (m + 1)).2.2 = s_tutorref05_round_12 (run_tutorref05_round K0 m).1 (run_tutorref05_round K0 m).2.1 (run_tutorref05_round K0 m).2.2 K0 from rfl]
      unfold s_tutorref05_round_12
      have p1 : 0 ≤ (t : Int) ∧ (t : Int) < (((prow N.toNat g t false).length : Nat) : Int) := by rw [prow_len]; omega
      rw [br_pos hxK, br_pos p1, show ((prow N.toNat g t false).getD (t : Int).toNat false) = false by rw [Int.toNat_natCast, prow_get htn], show (!false) = true from rfl, br_tt,
        wr ((s : Int) * K) (by omega) (by omega), wr ((t : Int) * K) (by omega) (by omega), wr ((s : Int) * K + x) (by omega) (by omega), wr ((t : Int) * K + x) (by omega) (by omega), wr ((x : Int) + 1) (by omega) (by omega),
        br_pos (by omega), mat_len, br_pos (by omega), br_pos (by omega), mat_rlen (by omega), br_pos (by omega), br_pos p1, mat_get (by omega) (by omega), Int.toNat_natCast, prow_set, e]
      rfl

theorem round_t (F : Fine k K O N nx ou) (K0 : Bool → (List (List Bool)) → Option R) {s : Nat} (hs : (s : Int) < N) {more0 : Bool} {o1 : List (List Bool)} (ho : o1.length ≤ 1024) {v : Option R}
    (h : Reach (fun m => (run_tutorref05_round K0 m).1 (mat N.toNat f) (k == 2) (more0 || moreR N.toNat f (apart1 k K nx ou f) s N.toNat) ((s + 1 : Nat) : Int) k K O N nx ou (o1 ++ [(List.range N.toNat).map (apart1 k K nx ou f s)])) v) :
    ∀ (d t : Nat), t + d = N.toNat → Reach (fun m => (run_tutorref05_round K0 m).2.1 (mat N.toNat f) (k == 2) (more0 || moreR N.toNat f (apart1 k K nx ou f) s t) s t k K O N nx ou o1 (prow N.toNat (apart1 k K nx ou f s) t false)) v := by
  have hN := F.fN
  have hsn : s < N.toNat := by omega
  intro d
  induction d with
  | zero =>
    intro t ht
    have e : t = N.toNat := by omega
    subst e
    refine .step (fun m => ?_) h
    rw [show (run_tutorref05_round K0 (m + 1)).2.1 = s_tutorref05_round_8 (run_tutorref05_round K0 m).1 (run_tutorref05_round K0 m).2.1 (run_tutorref05_round K0 m).2.2 K0 from rfl]
    unfold s_tutorref05_round_8
    rw [br_neg (by omega), prow_end, br_pos (by
      show (o1.length + 1) * 24 ≤ 140737488355328
      omega), wr _ (by omega) (by omega)]
    rfl
  | succ d ih =>
    intro t ht
    have htn : t < N.toNat := by omega
    have ih' := ih (t + 1) (by omega)
    rw [show (more0 || moreR N.toNat f (apart1 k K nx ou f) s (t + 1)) = ((more0 || moreR N.toNat f (apart1 k K nx ou f) s t) || (apart1 k K nx ou f s t != f s t)) by simp only [moreR]; rw [Bool.or_assoc]] at ih'
    refine .step (fun m => ?_) (round_x (g := apart1 k K nx ou f s) (b0 := apartN k K ou f s t) F K0 hs (t := t) (by omega) rfl ih' K.toNat 0 (by omega))
    rw [show (run_tutorref05_round K0 (m + 1)).2.1 = s_tutorref05_round_8 (run_tutorref05_round K0 m).1 (run_tutorref05_round K0 m).2.1 (run_tutorref05_round K0 m).2.2 K0 from rfl]
    unfold s_tutorref05_round_8
    rw [br_pos (by omega), mat_len, br_pos (by omega), Int.toNat_natCast, mat_rlen hsn, br_pos (by omega), Int.toNat_natCast, mat_get hsn htn, prow_len]
    simp only [prow_set]
    show _ = (run_tutorref05_round K0 m).2.2 _ _ _ _ _ _ _ _ _ _ _ _ _ (prow N.toNat _ t (apartN k K ou f s t))
    unfold apartN
    cases f s t with
    | true =>
      rw [br_tt, br_pos (by omega)]
      rfl
    | false =>
      cases hk : k == 2 with
      | true =>
        rw [br_ff, br_tt, now5_eq F ⟨by omega, hs⟩ ⟨by omega, by omega⟩]
        try dsimp only
        rw [br_pos (by omega)]
        rfl
      | false =>
        rw [br_ff, br_ff, br_pos (by omega)]
        rfl

theorem round_s (F : Fine k K O N nx ou) (K0 : Bool → (List (List Bool)) → Option R) : ∀ (d s : Nat), s + d = N.toNat →
    Reach (fun m => (run_tutorref05_round K0 m).1 (mat N.toNat f) (k == 2) (moreS N.toNat f (apart1 k K nx ou f) s) s k K O N nx ou ((mat N.toNat (apart1 k K nx ou f)).take s)) (K0 (moreS N.toNat f (apart1 k K nx ou f) N.toNat) (mat N.toNat (apart1 k K nx ou f))) := by
  have hN := F.fN
  intro d
  induction d with
  | zero =>
    intro s hs
    have e : s = N.toNat := by omega
    subst e
    refine .now fun m => ?_
    rw [show (run_tutorref05_round K0 (m + 1)).1 = s_tutorref05_round_4 (run_tutorref05_round K0 m).1 (run_tutorref05_round K0 m).2.1 (run_tutorref05_round K0 m).2.2 K0 from rfl]
    unfold s_tutorref05_round_4
    rw [br_neg (by omega), List.take_of_length_le (by rw [mat_len]; omega)]
  | succ d ih =>
    intro s hs
    have ih' := ih (s + 1) (by omega)
    rw [mat_take (by omega)] at ih'
    have := round_t F K0 (s := s) (by omega) (more0 := moreS N.toNat f (apart1 k K nx ou f) s) (by rw [List.length_take, mat_len]; omega) ih' N.toNat 0 (by omega)
    refine .step (fun m => ?_) this
    rw [show (run_tutorref05_round K0 (m + 1)).1 = s_tutorref05_round_4 (run_tutorref05_round K0 m).1 (run_tutorref05_round K0 m).2.1 (run_tutorref05_round K0 m).2.2 K0 from rfl]
    unfold s_tutorref05_round_4
    rw [br_pos (by omega), br_pos (by omega), prow_zero N.toNat (apart1 k K nx ou f s)]
    simp only [moreR, Bool.or_false]
    rfl
end

theorem ok_tutorref05_round {R : Type} (m : Int) (m_1 : Int) (m_2 : Int) (m_3 : Int) (m_4 : List Int) (m_5 : List Int) (apart : List (List Bool)) (first : Bool) (K0 : Bool → (List (List Bool)) → Option R) {r : R} (h : l_tutorref05_round m m_1 m_2 m_3 m_4 m_5 apart first K0 = some r) :
    ∃ fuel, e_tutorref05_round (run_tutorref05_round K0 fuel).1 (run_tutorref05_round K0 fuel).2.1 (run_tutorref05_round K0 fuel).2.2 K0 m m_1 m_2 m_3 m_4 m_5 apart first = some r := by
  unfold l_tutorref05_round at h
  rcases bi_some h with ⟨hs, h'⟩ | ⟨_, h'⟩
  · obtain ⟨hc, h1, h2⟩ := of_decide_eq_true hs
    have F := checkR_fine.1 hc
    rw [← h']
    obtain ⟨n, hn⟩ := (round_s (f := ofM apart) F K0 m_3.toNat 0 (by omega)).get
    refine ⟨n, ?_⟩
    rw [← h1, ← h2] at hn
    exact hn
  · cases h'

theorem round_eq {R : Type} {k K O N : Int} {nx ou : List Int} (F : Fine k K O N nx ou) (f : Nat → Nat → Bool) (K0 : Bool → (List (List Bool)) → Option R) :
    l_tutorref05_round k K O N nx ou (mat N.toNat f) (k == 2) K0 = K0 (moreS N.toNat (ofM (mat N.toNat f)) (apart1 k K nx ou (ofM (mat N.toNat f))) N.toNat) (mat N.toNat (apart1 k K nx ou (ofM (mat N.toNat f)))) := by
  unfold l_tutorref05_round
  rw [br_pos ⟨checkR_fine.2 F, mat_congr fun s t hs ht => (mat_get hs ht).symm, rfl⟩]

/-- tutor/tutorref05.classes -/
def s_tutorref05_classes_4 {R : Type} (g36_4 : (List (List Bool)) → Int → Int → (List Int) → Option R) (g36_8 : (List (List Bool)) → Int → Int → Int → Int → (List Int) → Option R) (K0 : (List Int) → Option R) (apart : List (List Bool)) (n : Int) (s : Int) (o0 : List Int) : Option R :=
  bi (decide (s < (apart.length : Int)))
   (g36_8 apart n s (-1) 0 o0)
   (K0 o0)

/-- tutor/tutorref05.classes -/
def s_tutorref05_classes_8 {R : Type} (g36_4 : (List (List Bool)) → Int → Int → (List Int) → Option R) (g36_8 : (List (List Bool)) → Int → Int → Int → Int → (List Int) → Option R) (K0 : (List Int) → Option R) (apart : List (List Bool)) (n : Int) (s : Int) (c : Int) (t : Int) (o0 : List Int) : Option R :=
  bi (decide (t < s))
   (bi (decide (c < 0))
    (bi (decide (0 ≤ s ∧ s < ((apart.length : Nat) : Int)))
     (bi (decide (0 ≤ t ∧ t < (((apart.getD s.toNat []).length : Nat) : Int)))
      (bi (!((apart.getD s.toNat []).getD t.toNat false))
       (bi (decide (0 ≤ t ∧ t < ((o0.length : Nat) : Int)))
        (g36_8 apart n s (o0.getD t.toNat 0) (IntKind.i64.wrap (t + 1)) o0)
        none)
       (g36_8 apart n s c (IntKind.i64.wrap (t + 1)) o0))
      none)
     none)
    (bi (decide (c < 0))
     (bi (decide ((o0.length + [n].length) * 8 ≤ lim))
      (g36_4 apart (IntKind.i64.wrap (n + 1)) (IntKind.i64.wrap (s + 1)) (o0 ++ [n]))
      none)
     (bi (decide ((o0.length + [c].length) * 8 ≤ lim))
      (g36_4 apart n (IntKind.i64.wrap (s + 1)) (o0 ++ [c]))
      none)))
   (bi (decide (c < 0))
    (bi (decide ((o0.length + [n].length) * 8 ≤ lim))
     (g36_4 apart (IntKind.i64.wrap (n + 1)) (IntKind.i64.wrap (s + 1)) (o0 ++ [n]))
     none)
    (bi (decide ((o0.length + [c].length) * 8 ≤ lim))
     (g36_4 apart n (IntKind.i64.wrap (s + 1)) (o0 ++ [c]))
     none))

/-- tutor/tutorref05.classes -/
def e_tutorref05_classes {R : Type} (g36_4 : (List (List Bool)) → Int → Int → (List Int) → Option R) (g36_8 : (List (List Bool)) → Int → Int → Int → Int → (List Int) → Option R) (K0 : (List Int) → Option R) (apart : List (List Bool)) : Option R :=
  g36_4 apart 0 0 ([] : List Int)

def run_tutorref05_classes {R : Type} (K0 : (List Int) → Option R) : Nat → ((List (List Bool)) → Int → Int → (List Int) → Option R) × ((List (List Bool)) → Int → Int → Int → Int → (List Int) → Option R)
  | 0 => (fun _ _ _ _ => none, fun _ _ _ _ _ _ => none)
  | n + 1 => (s_tutorref05_classes_4 (run_tutorref05_classes K0 n).1 (run_tutorref05_classes K0 n).2 K0, s_tutorref05_classes_8 (run_tutorref05_classes K0 n).1 (run_tutorref05_classes K0 n).2 K0)

def l_tutorref05_classes {R : Type} (apart : List (List Bool)) (K0 : (List Int) → Option R) : Option R :=
  bi (decide (apart.length ≤ 1024 ∧ apart = mat apart.length (ofM apart))) (K0 (clsF (ofM apart) apart.length).1) none

section
variable {R : Type} {n : Nat} {f : Nat → Nat → Bool}

theorem cls_in (hn : n ≤ 1024) (K0 : (List Int) → Option R) {s : Nat} (hs : s < n) {v : Option R}
    (h : Reach (fun m => (run_tutorref05_classes K0 m).1 (mat n f) (clsF f (s + 1)).2 ((s + 1 : Nat) : Int) (clsF f (s + 1)).1) v) :
    ∀ (d t : Nat), t + d = s → (∀ i, i < t → f s i = true) → Reach (fun m => (run_tutorref05_classes K0 m).2 (mat n f) (clsF f s).2 s (-1) t (clsF f s).1) v := by
  have hin := clsF_in f s
  have hl := clsF_len f s
  intro d
  induction d with
  | zero =>
    intro t ht hf
    have e : t = s := by omega
    subst e
    have hc : findP (fun i => !f t i) (List.range t) = none := findP_none.2 fun i hi => by rw [hf i (List.mem_range.1 hi)]; rfl
    refine .step (fun m => ?_) h
    rw [show (run_tutorref05_classes K0 (m + 1)).2 = s_tutorref05_classes_8 (run_tutorref05_classes K0 m).1 (run_tutorref05_classes K0 m).2 K0 from rfl]
    unfold s_tutorref05_classes_8
    rw [br_neg (by omega), br_pos (by omega), br_pos (by
      show ((clsF f t).1.length + 1) * 8 ≤ 140737488355328
      omega), wr _ (by omega) (by omega), wr _ (by omega) (by omega)]
    simp only [clsF, hc]
    rfl
  | succ d ih =>
    intro t ht hf
    have hts : t < s := by omega
    cases hb : f s t with
    | true =>
      refine .step (fun m => ?_) (ih (t + 1) (by omega) fun i hi => by
        by_cases c : i = t
        · subst c; exact hb
        · exact hf i (by omega))
      rw [show (run_tutorref05_classes K0 (m + 1)).2 = s_tutorref05_classes_8 (run_tutorref05_classes K0 m).1 (run_tutorref05_classes K0 m).2 K0 from rfl]
      unfold s_tutorref05_classes_8
      rw [br_pos (by omega), br_pos (by omega), mat_len, br_pos (by omega), Int.toNat_natCast, mat_rlen hs, br_pos (by omega), Int.toNat_natCast, mat_get hs (by omega), hb, show (!true) = false from rfl, br_ff, wr _ (by omega) (by omega)]
      rfl
    | false =>
      have hc : findP (fun i => !f s i) (List.range s) = some t := by
        have key : ∀ (l : List Nat) (i : Nat), i < l.length → (∀ j, j < i → f s (l.getD j 0) = true) → f s (l.getD i 0) = false → findP (fun i => !f s i) l = some i := by
          intro l
          induction l with
          | nil => intro i hi; exact absurd hi (by simp)
          | cons a l ihl =>
            intro i hi hj hfi
            cases i with
            | zero =>
              have : f s a = false := hfi
              simp [findP, this]
            | succ i =>
              have h0 : f s a = true := hj 0 (by omega)
              have h1 := ihl i (by simpa using hi) (fun j hj' => hj (j + 1) (by omega)) hfi
              simp [findP, h0, h1]
        refine key _ t (by simpa using hts) (fun j hj => ?_) ?_
        · rw [getD_of 0 (by simp; omega), List.getElem_range]; exact hf j hj
        · rw [getD_of 0 (by simpa using hts), List.getElem_range]; exact hb
      have hg : 0 ≤ (clsF f s).1.getD t 0 := (hin.2 _ (getD_mem (by rw [hl]; exact hts))).1
      have hstep : ∀ m, (run_tutorref05_classes K0 (m + 1)).2 (mat n f) (clsF f s).2 s (-1) t (clsF f s).1 = (run_tutorref05_classes K0 m).2 (mat n f) (clsF f s).2 s ((clsF f s).1.getD t 0) ((t + 1 : Nat) : Int) (clsF f s).1 := by
        intro m
        rw [show (run_tutorref05_classes K0 (m + 1)).2 = s_tutorref05_classes_8 (run_tutorref05_classes K0 m).1 (run_tutorref05_classes K0 m).2 K0 from rfl]
        unfold s_tutorref05_classes_8
        rw [br_pos (by omega), br_pos (by omega), mat_len, br_pos (by omega), Int.toNat_natCast, mat_rlen hs, br_pos (by omega), Int.toNat_natCast, mat_get hs (by omega), hb, show (!false) = true from rfl, br_tt, br_pos (by omega), wr _ (by omega) (by omega)]
        rfl
      refine .step hstep (.step (fun m => ?_) h)
      rw [show (run_tutorref05_classes K0 (m + 1)).2 = s_tutorref05_classes_8 (run_tutorref05_classes K0 m).1 (run_tutorref05_classes K0 m).2 K0 from rfl]
      unfold s_tutorref05_classes_8
      have fin : ∀ X : Option R, bi (decide ((clsF f s).1.getD t 0 < 0)) X (bi (decide (((clsF f s).1.length + [(clsF f s).1.getD t 0].length) * 8 ≤ lim)) ((run_tutorref05_classes K0 m).1 (mat n f) (clsF f s).2 (IntKind.i64.wrap ((s : Int) + 1)) ((clsF f s).1 ++ [(clsF f s).1.getD t 0])) none) =
          (run_tutorref05_classes K0 m).1 (mat n f) (clsF f (s + 1)).2 ((s + 1 : Nat) : Int) (clsF f (s + 1)).1 := fun X => by
        rw [br_neg (by omega), br_pos (by
          show ((clsF f s).1.length + 1) * 8 ≤ 140737488355328
          omega), wr _ (by omega) (by omega)]
        simp only [clsF, hc]
        rfl
      by_cases c : ((t + 1 : Nat) : Int) < (s : Int)
      · rw [br_pos c, br_neg (p := (clsF f s).1.getD t 0 < 0) (by omega)]
        exact fin _
      · rw [br_neg c]
        exact fin _

theorem cls_out (hn : n ≤ 1024) (K0 : (List Int) → Option R) : ∀ (d s : Nat), s + d = n → Reach (fun m => (run_tutorref05_classes K0 m).1 (mat n f) (clsF f s).2 s (clsF f s).1) (K0 (clsF f n).1) := by
  intro d
  induction d with
  | zero =>
    intro s hs
    have e : s = n := by omega
    subst e
    refine .now fun m => ?_
    rw [show (run_tutorref05_classes K0 (m + 1)).1 = s_tutorref05_classes_4 (run_tutorref05_classes K0 m).1 (run_tutorref05_classes K0 m).2 K0 from rfl]
    unfold s_tutorref05_classes_4
    rw [mat_len, br_neg (by omega)]
  | succ d ih =>
    intro s hs
    refine .step (fun m => ?_) (cls_in hn K0 (s := s) (by omega) (ih (s + 1) (by omega)) s 0 (by omega) fun i hi => absurd hi (by omega))
    rw [show (run_tutorref05_classes K0 (m + 1)).1 = s_tutorref05_classes_4 (run_tutorref05_classes K0 m).1 (run_tutorref05_classes K0 m).2 K0 from rfl]
    unfold s_tutorref05_classes_4
    rw [mat_len, br_pos (by omega)]
    rfl
end

theorem ok_tutorref05_classes {R : Type} (apart : List (List Bool)) (K0 : (List Int) → Option R) {r : R} (h : l_tutorref05_classes apart K0 = some r) : ∃ fuel, e_tutorref05_classes (run_tutorref05_classes K0 fuel).1 (run_tutorref05_classes K0 fuel).2 K0 apart = some r := by
  unfold l_tutorref05_classes at h
  rcases bi_some h with ⟨hs, h'⟩ | ⟨_, h'⟩
  · obtain ⟨h1, h2⟩ := of_decide_eq_true hs
    rw [← h']
    obtain ⟨n, hn⟩ := (cls_out (f := ofM apart) h1 K0 apart.length 0 (by omega)).get
    refine ⟨n, ?_⟩
    rw [← h2] at hn
    exact hn
  · cases h'

theorem classes_eq {R : Type} {n : Nat} (hn : n ≤ 1024) (f : Nat → Nat → Bool) (K0 : (List Int) → Option R) : l_tutorref05_classes (mat n f) K0 = K0 (clsF (ofM (mat n f)) n).1 := by
  unfold l_tutorref05_classes
  rw [mat_len, br_pos ⟨hn, mat_congr fun s t hs ht => (mat_get hs ht).symm⟩]

/-- tutor/tutorref05.Classes -/
def s_tutorref05_Classes_6 {R : Type} (g22_6 : Int → Int → Int → Int → Int → (List Int) → (List Int) → (List (List Bool)) → Option R) (K0 : Int → Int → (List Int) → Option R) (n : Int) (o0 : Int) (o0_1 : Int) (o0_2 : Int) (o0_3 : Int) (o0_4 : List Int) (o0_5 : List Int) (o1 : List (List Bool)) : Option R :=
  l_tutorref05_round o0 o0_1 o0_2 o0_3 o0_4 o0_5 o1 (o0 == 2)
   (fun r4 r5 =>
    bi (!r4)
     (l_tutorref05_classes o1
      (fun r6 =>
       K0 n 0 r6))
     (g22_6 (IntKind.i64.wrap (n + 1)) o0 o0_1 o0_2 o0_3 o0_4 o0_5 r5))

/-- tutor/tutorref05.Classes -/
def e_tutorref05_Classes {R : Type} (g22_6 : Int → Int → Int → Int → Int → (List Int) → (List Int) → (List (List Bool)) → Option R) (K0 : Int → Int → (List Int) → Option R) (m : Int) (m_1 : Int) (m_2 : Int) (m_3 : Int) (m_4 : List Int) (m_5 : List Int) : Option R :=
  l_tutorref03_Check m m_1 m_2 m_3 m_4 m_5
   (fun r1 r2 =>
    bi (r2 != 0)
     (K0 0 r2 ([] : List Int))
     (l_tutorref05_start m m_1 m_2 m_3 m_4 m_5
      (fun r3 =>
       g22_6 0 m m_1 m_2 m_3 m_4 m_5 r3)))

def run_tutorref05_Classes {R : Type} (K0 : Int → Int → (List Int) → Option R) : Nat → Int → Int → Int → Int → Int → (List Int) → (List Int) → (List (List Bool)) → Option R
  | 0 => fun _ _ _ _ _ _ _ _ => none
  | n + 1 => s_tutorref05_Classes_6 (run_tutorref05_Classes K0 n) K0

theorem round_eq2 {R : Type} {k K O N : Int} {nx ou : List Int} (F : Fine k K O N nx ou) (f : Nat → Nat → Bool) (K0 : Bool → (List (List Bool)) → Option R) :
    l_tutorref05_round k K O N nx ou (mat N.toNat f) (k == 2) K0 = K0 (moreS N.toNat f (apart1 k K nx ou f) N.toNat) (mat N.toNat (apart1 k K nx ou f)) := by
  have e : ∀ s t, s < N.toNat → t < N.toNat → ofM (mat N.toNat f) s t = f s t := fun s t hs ht => ofM_mat f hs ht
  have e1 : ∀ s t, s < N.toNat → t < N.toNat → apart1 k K nx ou (ofM (mat N.toNat f)) s t = apart1 k K nx ou f s t := fun s t hs ht => apart1_congr F e hs ht
  rw [round_eq F, moreS_congr fun i j hi hj => ⟨e1 i j hi hj, e i j hi hj⟩, mat_congr e1]
theorem classes_eq2 {R : Type} {n : Nat} (hn : n ≤ 1024) (f : Nat → Nat → Bool) (K0 : (List Int) → Option R) : l_tutorref05_classes (mat n f) K0 = K0 (clsF f n).1 := by
  rw [classes_eq hn, clsF_congr fun s t hs ht => ofM_mat f hs ht]

/-- The classes: rounds, error, numbers. -/
def classesS (k K O N : Int) (nx ou : List Int) : Int × Int × List Int :=
  if (checkR k K O N nx ou).2 ≠ 0 then (0, (checkR k K O N nx ou).2, []) else
    (((iterM k K N nx ou ((pairsL N.toNat).length + 1) 0 (apart0 k K ou)).1 : Int), 0, (clsF (apartF k K N nx ou) N.toNat).1)

def l_tutorref05_Classes {R : Type} (m : Int) (m_1 : Int) (m_2 : Int) (m_3 : Int) (m_4 : List Int) (m_5 : List Int) (K0 : Int → Int → (List Int) → Option R) : Option R :=
  bi (decide (short m_4 ∧ short m_5)) (K0 (classesS m m_1 m_2 m_3 m_4 m_5).1 (classesS m m_1 m_2 m_3 m_4 m_5).2.1 (classesS m m_1 m_2 m_3 m_4 m_5).2.2) none

theorem classes_run {R : Type} {k K O N : Int} {nx ou : List Int} (F : Fine k K O N nx ou) (K0 : Int → Int → (List Int) → Option R) : ∀ (n i : Nat) (f : Nat → Nat → Bool), (pairsL N.toNat).length < n + cntM N.toNat f → i + n ≤ 1073741824 →
    Reach (fun m => run_tutorref05_Classes K0 m i k K O N nx ou (mat N.toNat f)) (K0 ((iterM k K N nx ou n i f).1 : Int) 0 (clsF (iterM k K N nx ou n i f).2 N.toNat).1)
  | 0, i, f, h, _ => by
    have : cntM N.toNat f ≤ (pairsL N.toNat).length := List.length_filter_le _ _
    omega
  | n + 1, i, f, h, hi => by
    have hN := F.fN
    have hst := iterM_stops F (n + 1) i f h
    have key : ∀ m, run_tutorref05_Classes K0 (m + 1) i k K O N nx ou (mat N.toNat f) = bi (!(moreS N.toNat f (apart1 k K nx ou f) N.toNat)) (K0 (i : Int) 0 (clsF f N.toNat).1) (run_tutorref05_Classes K0 m ((i + 1 : Nat) : Int) k K O N nx ou (mat N.toNat (apart1 k K nx ou f))) := by
      intro m
      rw [show run_tutorref05_Classes K0 (m + 1) = s_tutorref05_Classes_6 (run_tutorref05_Classes K0 m) K0 from rfl]
      unfold s_tutorref05_Classes_6
      rw [round_eq2 F]
      try dsimp only
      rw [classes_eq2 (by omega), wr _ (by omega) (by omega)]
      rfl
    cases hm : moreS N.toNat f (apart1 k K nx ou f) N.toNat with
    | false =>
      have e : iterM k K N nx ou (n + 1) i f = (i, f) := by
        unfold iterM
        rw [hm, if_neg (by decide)]
      rw [e]
      exact .now fun m => by rw [key, hm]; rfl
    | true =>
      have e : iterM k K N nx ou (n + 1) i f = iterM k K N nx ou n (i + 1) (apart1 k K nx ou f) := by
        conv => lhs; unfold iterM
        rw [hm, if_pos rfl]
      rw [e]
      refine .step (fun m => by rw [key, hm]; rfl) (classes_run F K0 n (i + 1) _ ?_ (by omega))
      have hlt : cntM N.toNat f < cntM N.toNat (apart1 k K nx ou f) := by
        refine (filter_less fun p _ hp => apart1_up F hp).2 ?_
        refine Classical.byContradiction fun hc => ?_
        have : moreS N.toNat f (apart1 k K nx ou f) N.toNat = false := moreS_false.2 fun a b ha hb => by
          cases h1 : f a b with
          | true => exact apart1_up F h1
          | false =>
            cases h2 : apart1 k K nx ou f a b with
            | false => rfl
            | true => exact absurd ⟨(a, b), pairsL_mem.2 ⟨ha, hb⟩, h2, h1⟩ hc
        rw [this] at hm
        cases hm
      omega

theorem ok_tutorref05_Classes {R : Type} (m : Int) (m_1 : Int) (m_2 : Int) (m_3 : Int) (m_4 : List Int) (m_5 : List Int) (K0 : Int → Int → (List Int) → Option R) {r : R} (h : l_tutorref05_Classes m m_1 m_2 m_3 m_4 m_5 K0 = some r) : ∃ fuel, e_tutorref05_Classes (run_tutorref05_Classes K0 fuel) K0 m m_1 m_2 m_3 m_4 m_5 = some r := by
  unfold l_tutorref05_Classes at h
  rcases bi_some h with ⟨hs, h'⟩ | ⟨_, h'⟩
  · have hs := of_decide_eq_true hs
    rw [← h']
    unfold e_tutorref05_Classes classesS l_tutorref03_Check
    by_cases c1 : (checkR m m_1 m_2 m_3 m_4 m_5).2 = 0
    · have F := checkR_fine.1 c1
      have hN := F.fN
      have hl := pairsL_len m_3.toNat
      have hb : m_3.toNat * m_3.toNat ≤ 1024 * 1024 := Nat.mul_le_mul (by omega) (by omega)
      obtain ⟨n, hn⟩ := (classes_run F K0 ((pairsL m_3.toNat).length + 1) 0 (apart0 m m_1 m_5) (by omega) (by omega)).get
      refine ⟨n, ?_⟩
      rw [br_pos hs]
      try dsimp only
      rw [br_ne' c1, if_neg (by simpa using c1)]
      unfold l_tutorref05_start
      rw [br_pos c1]
      exact hn
    · refine ⟨0, ?_⟩
      rw [br_pos hs]
      try dsimp only
      rw [br_ne c1, if_pos (by simpa using c1)]
  · cases h'

theorem cls_eq {R : Type} {k K O N : Int} {nx ou : List Int} (h1 : short nx) (h2 : short ou) (K0 : Int → Int → (List Int) → Option R) : l_tutorref05_Classes k K O N nx ou K0 = K0 (classesS k K O N nx ou).1 (classesS k K O N nx ou).2.1 (classesS k K O N nx ou).2.2 := by
  unfold l_tutorref05_Classes
  rw [br_pos ⟨h1, h2⟩]

/-- tutor/tutorref01.Join -/
def l_tutorref01_Join {R : Type} (a : List Int) (b : List Int) (K0 : (List Int) → Option R) : Option R :=
  bi (decide ((([] : List Int).length + a.length) * 8 ≤ lim))
   (bi (decide (((([] : List Int) ++ a).length + b.length) * 8 ≤ lim))
    (K0 ((([] : List Int) ++ a) ++ b))
    none)
   none

theorem join_eq {R : Type} {a b : List Int} (h : a.length + b.length ≤ 1000000000) (K0 : List Int → Option R) : l_tutorref01_Join a b K0 = K0 (a ++ b) := by
  unfold l_tutorref01_Join
  rw [br_pos (by simp [lim]; omega), br_pos (by simp [lim]; omega)]
  rfl

/-- tutor/tutorref04.Reach -/
def s_tutorref04_Reach_9 {R : Type} (g48_9 : Int → Int → Int → Int → Int → (List Int) → (List Int) → (List Bool) → (List Int) → (List (List Int)) → Option R) (g48_12 : Int → Int → Int → Int → Int → Int → (List Int) → (List Int) → (List Bool) → (List Int) → (List (List Int)) → Option R) (g48_15 : Int → Int → Int → Int → Int → Int → Int → (List Int) → (List Int) → (List Bool) → (List Int) → (List (List Int)) → Option R) (K0 : Int → (List Int) → (List (List Int)) → Option R) (vfrom : Int) (o0 : Int) (o0_1 : Int) (o0_2 : Int) (o0_3 : Int) (o0_4 : List Int) (o0_5 : List Int) (o1 : List Bool) (o2 : List Int) (o3 : List (List Int)) : Option R :=
  bi (decide (vfrom < (o2.length : Int)))
   (g48_12 (o2.length : Int) vfrom o0 o0_1 o0_2 o0_3 o0_4 o0_5 o1 o2 o3)
   (K0 0 o2 o3)

/-- tutor/tutorref04.Reach -/
def s_tutorref04_Reach_12 {R : Type} (g48_9 : Int → Int → Int → Int → Int → (List Int) → (List Int) → (List Bool) → (List Int) → (List (List Int)) → Option R) (g48_12 : Int → Int → Int → Int → Int → Int → (List Int) → (List Int) → (List Bool) → (List Int) → (List (List Int)) → Option R) (g48_15 : Int → Int → Int → Int → Int → Int → Int → (List Int) → (List Int) → (List Bool) → (List Int) → (List (List Int)) → Option R) (K0 : Int → (List Int) → (List (List Int)) → Option R) (vuntil : Int) (i : Int) (o0 : Int) (o0_1 : Int) (o0_2 : Int) (o0_3 : Int) (o0_4 : List Int) (o0_5 : List Int) (o1 : List Bool) (o2 : List Int) (o3 : List (List Int)) : Option R :=
  bi (decide (i < vuntil))
   (g48_15 vuntil i 0 o0 o0_1 o0_2 o0_3 o0_4 o0_5 o1 o2 o3)
   (g48_9 vuntil o0 o0_1 o0_2 o0_3 o0_4 o0_5 o1 o2 o3)

/-- tutor/tutorref04.Reach -/
def s_tutorref04_Reach_15 {R : Type} (g48_9 : Int → Int → Int → Int → Int → (List Int) → (List Int) → (List Bool) → (List Int) → (List (List Int)) → Option R) (g48_12 : Int → Int → Int → Int → Int → Int → (List Int) → (List Int) → (List Bool) → (List Int) → (List (List Int)) → Option R) (g48_15 : Int → Int → Int → Int → Int → Int → Int → (List Int) → (List Int) → (List Bool) → (List Int) → (List (List Int)) → Option R) (K0 : Int → (List Int) → (List (List Int)) → Option R) (vuntil : Int) (i : Int) (x : Int) (o0 : Int) (o0_1 : Int) (o0_2 : Int) (o0_3 : Int) (o0_4 : List Int) (o0_5 : List Int) (o1 : List Bool) (o2 : List Int) (o3 : List (List Int)) : Option R :=
  bi (decide (x < o0_1))
   (bi (decide (0 ≤ i ∧ i < ((o2.length : Nat) : Int)))
    (bi (decide (0 ≤ (IntKind.i64.wrap ((IntKind.i64.wrap ((o2.getD i.toNat 0) * o0_1)) + x)) ∧ (IntKind.i64.wrap ((IntKind.i64.wrap ((o2.getD i.toNat 0) * o0_1)) + x)) < ((o0_4.length : Nat) : Int)))
     (bi (decide (0 ≤ (o0_4.getD ((IntKind.i64.wrap ((IntKind.i64.wrap ((o2.getD i.toNat 0) * o0_1)) + x)).toNat) 0) ∧ (o0_4.getD ((IntKind.i64.wrap ((IntKind.i64.wrap ((o2.getD i.toNat 0) * o0_1)) + x)).toNat) 0) < ((o1.length : Nat) : Int)))
      (bi (!(o1.getD ((o0_4.getD ((IntKind.i64.wrap ((IntKind.i64.wrap ((o2.getD i.toNat 0) * o0_1)) + x)).toNat) 0).toNat) false))
       (bi (decide (0 ≤ (o0_4.getD ((IntKind.i64.wrap ((IntKind.i64.wrap ((o2.getD i.toNat 0) * o0_1)) + x)).toNat) 0) ∧ (o0_4.getD ((IntKind.i64.wrap ((IntKind.i64.wrap ((o2.getD i.toNat 0) * o0_1)) + x)).toNat) 0) < ((o1.length : Nat) : Int)))
        (bi (decide ((o2.length + [o0_4.getD ((IntKind.i64.wrap ((IntKind.i64.wrap ((o2.getD i.toNat 0) * o0_1)) + x)).toNat) 0].length) * 8 ≤ lim))
         (bi (decide (0 ≤ i ∧ i < ((o3.length : Nat) : Int)))
          (l_tutorref01_Join (o3.getD i.toNat []) [x]
           (fun r3 =>
            bi (decide ((o3.length + [r3].length) * 24 ≤ lim))
             (g48_15 vuntil i (IntKind.i64.wrap (x + 1)) o0 o0_1 o0_2 o0_3 o0_4 o0_5 (o1.set ((o0_4.getD ((IntKind.i64.wrap ((IntKind.i64.wrap ((o2.getD i.toNat 0) * o0_1)) + x)).toNat) 0).toNat) true) (o2 ++ [o0_4.getD ((IntKind.i64.wrap ((IntKind.i64.wrap ((o2.getD i.toNat 0) * o0_1)) + x)).toNat) 0]) (o3 ++ [r3]))
             none))
          none)
         none)
        none)
       (g48_15 vuntil i (IntKind.i64.wrap (x + 1)) o0 o0_1 o0_2 o0_3 o0_4 o0_5 o1 o2 o3))
      none)
     none)
    none)
   (g48_12 vuntil (IntKind.i64.wrap (i + 1)) o0 o0_1 o0_2 o0_3 o0_4 o0_5 o1 o2 o3)

/-- tutor/tutorref04.Reach -/
def e_tutorref04_Reach {R : Type} (g48_9 : Int → Int → Int → Int → Int → (List Int) → (List Int) → (List Bool) → (List Int) → (List (List Int)) → Option R) (g48_12 : Int → Int → Int → Int → Int → Int → (List Int) → (List Int) → (List Bool) → (List Int) → (List (List Int)) → Option R) (g48_15 : Int → Int → Int → Int → Int → Int → Int → (List Int) → (List Int) → (List Bool) → (List Int) → (List (List Int)) → Option R) (K0 : Int → (List Int) → (List (List Int)) → Option R) (m : Int) (m_1 : Int) (m_2 : Int) (m_3 : Int) (m_4 : List Int) (m_5 : List Int) : Option R :=
  l_tutorref03_Check m m_1 m_2 m_3 m_4 m_5
   (fun r1 r2 =>
    bi (r2 != 0)
     (K0 r2 ([] : List Int) ([] : List (List Int)))
     (bi (decide (0 ≤ m_3 ∧ m_3 ≤ m_3 ∧ m_3 ≤ 1073741824))
      (bi (decide (0 ≤ (0 : Int) ∧ (0 : Int) < (((List.replicate m_3.toNat (false : Bool)).length : Nat) : Int)))
       (g48_9 0 m m_1 m_2 m_3 m_4 m_5 ((List.replicate m_3.toNat (false : Bool)).set 0 true) [0] [([] : List Int)])
       none)
      none))

def run_tutorref04_Reach {R : Type} (K0 : Int → (List Int) → (List (List Int)) → Option R) : Nat → (Int → Int → Int → Int → Int → (List Int) → (List Int) → (List Bool) → (List Int) → (List (List Int)) → Option R) × (Int → Int → Int → Int → Int → Int → (List Int) → (List Int) → (List Bool) → (List Int) → (List (List Int)) → Option R) × (Int → Int → Int → Int → Int → Int → Int → (List Int) → (List Int) → (List Bool) → (List Int) → (List (List Int)) → Option R)
  | 0 => (fun _ _ _ _ _ _ _ _ _ _ => none, fun _ _ _ _ _ _ _ _ _ _ _ => none, fun _ _ _ _ _ _ _ _ _ _ _ _ => none)
  | n + 1 => (s_tutorref04_Reach_9 (run_tutorref04_Reach K0 n).1 (run_tutorref04_Reach K0 n).2.1 (run_tutorref04_Reach K0 n).2.2 K0, s_tutorref04_Reach_12 (run_tutorref04_Reach K0 n).1 (run_tutorref04_Reach K0 n).2.1 (run_tutorref04_Reach K0 n).2.2 K0, s_tutorref04_Reach_15 (run_tutorref04_Reach K0 n).1 (run_tutorref04_Reach K0 n).2.1 (run_tutorref04_Reach K0 n).2.2 K0)

/-- All states that are come to, in their order, and by which words. -/
def reachL (k K N : Int) (nx ou : List Int) : List PW := growS (selfD k K N nx ou) (0, 0)

def l_tutorref04_Reach {R : Type} (m : Int) (m_1 : Int) (m_2 : Int) (m_3 : Int) (m_4 : List Int) (m_5 : List Int) (K0 : Int → (List Int) → (List (List Int)) → Option R) : Option R :=
  bi (decide (short m_4 ∧ short m_5)) (if (checkR m m_1 m_2 m_3 m_4 m_5).2 ≠ 0 then K0 (checkR m m_1 m_2 m_3 m_4 m_5).2 [] [] else K0 0 ((reachL m m_1 m_3 m_4 m_5).map (·.1.1)) ((reachL m m_1 m_3 m_4 m_5).map (·.2))) none

/-- Marks of the states that are known; each stands beside itself. -/
structure Seen (N : Int) (o1 : List Bool) (L : List PW) : Prop where
  len : (o1.length : Int) = N
  get : ∀ t : Int, 0 ≤ t → t < N → o1.getD t.toNat false = known L (t, t)
  diag : ∀ e ∈ L, e.1.2 = e.1.1
theorem getD_setB2 (l : List Bool) (i t : Nat) (x : Bool) : (l.set i x).getD t false = if i = t ∧ i < l.length then x else l.getD t false := by
  rw [List.getD_eq_getElem?_getD, List.getElem?_set, List.getD_eq_getElem?_getD]
  by_cases h : i = t
  · subst h
    by_cases h2 : i < l.length
    · simp [h2]
    · simp [h2]
  · simp [h]
theorem known_snoc2 (L : List PW) (p q : Int × Int) (w : List Int) : known (L ++ [(p, w)]) q = (known L q || decide (p = q)) := by
  unfold known
  rw [List.any_append]
  congr 1
  rw [Bool.eq_iff_iff]
  simp [Prod.ext_iff]
theorem Seen.push {N : Int} {o1 : List Bool} {L : List PW} (S : Seen N o1 L) {t : Int} (ht : 0 ≤ t ∧ t < N) (w : List Int) : Seen N (o1.set t.toNat true) (L ++ [((t, t), w)]) := by
  refine ⟨by rw [List.length_set]; exact S.len, fun u h1 h2 => ?_, fun e he => ?_⟩
  · have hl := S.len
    rw [getD_setB2, known_snoc2, S.get u h1 h2]
    by_cases c : t = u
    · subst c
      rw [if_pos ⟨rfl, by omega⟩, decide_eq_true rfl, Bool.or_true]
    · rw [if_neg (by omega), decide_eq_false (fun h => c (Prod.mk.inj h).1), Bool.or_false]
  · rcases List.mem_append.1 he with he | he
    · exact S.diag e he
    · rw [List.mem_singleton] at he
      subst he
      rfl

theorem reach_run {R : Type} {k K O N : Int} {nx ou : List Int} (F : Fine k K O N nx ou) (K0 : Int → (List Int) → (List (List Int)) → Option R) :
    ∀ (n i x u : Nat) (L : List PW) (o1 : List Bool) (L' : List PW), grow (selfD k K N nx ou) n i x L = some L' → Inv (selfD k K N nx ou) (0, 0) L → Seen N o1 L → i < u → u ≤ L.length → x ≤ K.toNat →
    Reach (fun m => (run_tutorref04_Reach K0 m).2.2 u i x k K O N nx ou o1 (L.map (·.1.1)) (L.map (·.2))) (K0 0 (L'.map (·.1.1)) (L'.map (·.2)))
  | 0, _, _, _, _, _, _, h, _, _, _, _, _ => by cases h
  | n + 1, i, x, u, L, o1, L', h, I, S, hiu, hu, hx => by
    have hN := F.fN
    have hK := F.fK
    have hNK := mulK ⟨hN, hK⟩
    have hNN := mul_most hN hN
    have hmost : L.length ≤ (N * N).toNat := I.most
    have hi : i < L.length := by omega
    have hm : L.getD i pw0 ∈ L := getD_mem hi
    have hp := (I.inn _ hm).1
    have hdg := S.diag _ hm
    have hl1 : (L.map (·.1.1)).length = L.length := List.length_map _
    have hl2 : (L.map (·.2)).length = L.length := List.length_map _
    have hg1 : (L.map (·.1.1)).getD i 0 = (L.getD i pw0).1.1 := by rw [getD_of 0 (by omega), List.getElem_map, getD_of pw0 hi]
    have hg2 : (L.map (·.2)).getD i [] = (L.getD i pw0).2 := by rw [getD_of [] (by omega), List.getElem_map, getD_of pw0 hi]
    have hlen := I.len i hi
    unfold grow at h
    by_cases c : (x : Int) < K
    · rw [if_pos (show (x : Int) < (selfD k K N nx ou).K from c)] at h
      have i1 := idx_in (s := (L.getD i pw0).1.1) (N := N) hp (x := (x : Int)) (K := K) ⟨by omega, c⟩
      have f1 := F.fnx
      have hn : 0 ≤ nx.getD ((L.getD i pw0).1.1 * K + x).toNat 0 ∧ nx.getD ((L.getD i pw0).1.1 * K + x).toNat 0 < N := by
        rw [getD_of 0 (by omega)]
        exact F.fnxs _ (List.getElem_mem _)
      have hq : (selfD k K N nx ou).nxt (L.getD i pw0).1 x = (nx.getD ((L.getD i pw0).1.1 * K + x).toNat 0, nx.getD ((L.getD i pw0).1.1 * K + x).toNat 0) := by
        unfold Duo.nxt selfD
        rw [hdg]
      rw [hq] at h
      have hget := S.get _ hn.1 hn.2
      have hsl := S.len
      have key : ∀ m, (run_tutorref04_Reach K0 (m + 1)).2.2 u i x k K O N nx ou o1 (L.map (·.1.1)) (L.map (·.2)) =
          if known L (nx.getD ((L.getD i pw0).1.1 * K + x).toNat 0, nx.getD ((L.getD i pw0).1.1 * K + x).toNat 0) = true then (run_tutorref04_Reach K0 m).2.2 u i ((x + 1 : Nat) : Int) k K O N nx ou o1 (L.map (·.1.1)) (L.map (·.2))
          else (run_tutorref04_Reach K0 m).2.2 u i ((x + 1 : Nat) : Int) k K O N nx ou (o1.set (nx.getD ((L.getD i pw0).1.1 * K + x).toNat 0).toNat true) (L.map (·.1.1) ++ [nx.getD ((L.getD i pw0).1.1 * K + x).toNat 0]) (L.map (·.2) ++ [(L.getD i pw0).2 ++ [(x : Int)]]) := by
        intro m
        rw [show (run_tutorref04_Reach K0 (m + 1)).2.2 = s_tutorref04_Reach_15 (run_tutorref04_Reach K0 m).1 (run_tutorref04_Reach K0 m).2.1 (run_tutorref04_Reach K0 m).2.2 K0 from rfl]
        unfold s_tutorref04_Reach_15
        rw [br_pos c, hl1, hl2, br_pos (by omega), Int.toNat_natCast, hg1, hg2, wr ((L.getD i pw0).1.1 * K) (by omega) (by omega), wr ((L.getD i pw0).1.1 * K + x) (by omega) (by omega), wr ((x : Int) + 1) (by omega) (by omega), br_pos (by omega), br_pos (by omega), hget]
        cases known L (nx.getD ((L.getD i pw0).1.1 * K + x).toNat 0, nx.getD ((L.getD i pw0).1.1 * K + x).toNat 0) with
        | true =>
          rw [show (!true) = false from rfl, br_ff, if_pos rfl]
          rfl
        | false =>
          rw [show (!false) = true from rfl, br_tt, if_neg (by decide), br_pos (by omega), br_pos (by
            show (L.length + 1) * 8 ≤ 140737488355328
            omega), br_pos (by omega), join_eq (by
            show _ + 1 ≤ 1000000000
            omega)]
          try dsimp only
          rw [br_pos (by
            show (L.length + 1) * 24 ≤ 140737488355328
            omega)]
          rfl
      cases hk : known L (nx.getD ((L.getD i pw0).1.1 * K + x).toNat 0, nx.getD ((L.getD i pw0).1.1 * K + x).toNat 0) with
      | true =>
        rw [hk, if_pos rfl] at h
        exact .step (fun m => by rw [key, hk, if_pos rfl]) (reach_run F K0 n i (x + 1) u L o1 L' h I S hiu hu (by omega))
      | false =>
        rw [hk, if_neg (by decide)] at h
        refine .step (fun m => by rw [key, hk, if_neg (by decide)]) ?_
        have hst : (selfD k K N nx ou).st ((selfD k K N nx ou).nxt (L.getD i pw0).1 x) = false := by
          rw [hq]
          exact (self_quiet F _).st
        have I' := I.push (selfD_fine F) hi (x := (x : Int)) ⟨by omega, c⟩ hst (by rw [hq]; exact hk)
        rw [hq] at I'
        have ih := reach_run F K0 n i (x + 1) u _ _ L' h I' (S.push hn _) hiu (by simp; omega) (by omega)
        rw [List.map_append, List.map_append] at ih
        exact ih
    · rw [if_neg (show ¬ (x : Int) < (selfD k K N nx ou).K from c)] at h
      -- to the next place
      have s15 : ∀ m, (run_tutorref04_Reach K0 (m + 1)).2.2 u i x k K O N nx ou o1 (L.map (·.1.1)) (L.map (·.2)) = (run_tutorref04_Reach K0 m).2.1 u ((i + 1 : Nat) : Int) k K O N nx ou o1 (L.map (·.1.1)) (L.map (·.2)) := by
        intro m
        rw [show (run_tutorref04_Reach K0 (m + 1)).2.2 = s_tutorref04_Reach_15 (run_tutorref04_Reach K0 m).1 (run_tutorref04_Reach K0 m).2.1 (run_tutorref04_Reach K0 m).2.2 K0 from rfl]
        unfold s_tutorref04_Reach_15
        rw [br_neg c, wr _ (by omega) (by omega)]
        rfl
      have s12 : ∀ (m a u : Nat), (run_tutorref04_Reach K0 (m + 1)).2.1 u a k K O N nx ou o1 (L.map (·.1.1)) (L.map (·.2)) = if a < u then (run_tutorref04_Reach K0 m).2.2 u a 0 k K O N nx ou o1 (L.map (·.1.1)) (L.map (·.2)) else (run_tutorref04_Reach K0 m).1 u k K O N nx ou o1 (L.map (·.1.1)) (L.map (·.2)) := by
        intro m a u
        rw [show (run_tutorref04_Reach K0 (m + 1)).2.1 = s_tutorref04_Reach_12 (run_tutorref04_Reach K0 m).1 (run_tutorref04_Reach K0 m).2.1 (run_tutorref04_Reach K0 m).2.2 K0 from rfl]
        unfold s_tutorref04_Reach_12
        by_cases ca : a < u
        · rw [br_pos (by omega), if_pos ca]
        · rw [br_neg (by omega), if_neg ca]
      have s9 : ∀ (m u : Nat), (run_tutorref04_Reach K0 (m + 1)).1 u k K O N nx ou o1 (L.map (·.1.1)) (L.map (·.2)) = if u < L.length then (run_tutorref04_Reach K0 m).2.1 L.length u k K O N nx ou o1 (L.map (·.1.1)) (L.map (·.2)) else K0 0 (L.map (·.1.1)) (L.map (·.2)) := by
        intro m u
        rw [show (run_tutorref04_Reach K0 (m + 1)).1 = s_tutorref04_Reach_9 (run_tutorref04_Reach K0 m).1 (run_tutorref04_Reach K0 m).2.1 (run_tutorref04_Reach K0 m).2.2 K0 from rfl]
        unfold s_tutorref04_Reach_9
        rw [hl1]
        by_cases ca : u < L.length
        · rw [br_pos (by omega), if_pos ca]
        · rw [br_neg (by omega), if_neg ca]
      refine .step s15 ?_
      by_cases h3 : i + 1 < L.length
      · rw [if_pos h3] at h
        by_cases cu : i + 1 < u
        · refine .step (fun m => by rw [s12, if_pos cu]) ?_
          exact reach_run F K0 n (i + 1) 0 u L o1 L' h I S cu hu (by omega)
        · have eu : u = i + 1 := by omega
          refine .step (fun m => by rw [s12, if_neg cu]) (.step (fun m => by rw [s9, if_pos (by omega)]) (.step (fun m => by rw [s12, if_pos (by omega)]) ?_))
          rw [eu]
          exact reach_run F K0 n (i + 1) 0 L.length L o1 L' h I S h3 (Nat.le_refl _) (by omega)
      · rw [if_neg h3] at h
        cases h
        refine .step (fun m => by rw [s12, if_neg (by omega)]) (.now fun m => by rw [s9, if_neg (by omega)])

theorem reach_grown {k K O N : Int} {nx ou : List Int} (F : Fine k K O N nx ou) : Grown (selfD k K N nx ou) (0, 0) (reachL k K N nx ou) :=
  growS_spec (selfD_fine F) (by have := F.fN; exact ⟨⟨Int.le_refl 0, by show (0 : Int) < N; omega⟩, ⟨Int.le_refl 0, by show (0 : Int) < N; omega⟩⟩) (self_quiet F 0)

theorem ok_tutorref04_Reach {R : Type} (m : Int) (m_1 : Int) (m_2 : Int) (m_3 : Int) (m_4 : List Int) (m_5 : List Int) (K0 : Int → (List Int) → (List (List Int)) → Option R) {r : R} (h : l_tutorref04_Reach m m_1 m_2 m_3 m_4 m_5 K0 = some r) : ∃ fuel, e_tutorref04_Reach (run_tutorref04_Reach K0 fuel).1 (run_tutorref04_Reach K0 fuel).2.1 (run_tutorref04_Reach K0 fuel).2.2 K0 m m_1 m_2 m_3 m_4 m_5 = some r := by
  unfold l_tutorref04_Reach at h
  rcases bi_some h with ⟨hs, h'⟩ | ⟨_, h'⟩
  · have hs := of_decide_eq_true hs
    unfold e_tutorref04_Reach l_tutorref03_Check
    by_cases c1 : (checkR m m_1 m_2 m_3 m_4 m_5).2 = 0
    · rw [if_neg (by simpa using c1)] at h'
      rw [← h']
      have F := checkR_fine.1 c1
      have hN := F.fN
      have hin : (selfD m m_1 m_3 m_4 m_5).inn (0, 0) := ⟨⟨Int.le_refl 0, by show (0 : Int) < m_3; omega⟩, ⟨Int.le_refl 0, by show (0 : Int) < m_3; omega⟩⟩
      have S0 : Seen m_3 ((List.replicate m_3.toNat false).set (0 : Int).toNat true) ([] ++ [((0, 0), [])]) := by
        refine Seen.push ⟨by rw [List.length_replicate]; omega, fun t h1 h2 => ?_, fun e he => by cases he⟩ ⟨by omega, by omega⟩ []
        rw [List.getD_eq_getElem?_getD, List.getElem?_replicate]
        show (if _ then _ else _ : Option Bool).getD false = false
        split <;> rfl
      have hr := reach_run F K0 _ 0 0 1 _ _ _ (growS_run (selfD_fine F) hin (self_quiet F 0)) (Inv.start hin (self_quiet F 0).st) S0 (by omega) (by simp) (by omega)
      have hr2 : Reach (fun n => (run_tutorref04_Reach K0 n).1 0 m m_1 m_2 m_3 m_4 m_5 ((List.replicate m_3.toNat false).set 0 true) [0] [([] : List Int)]) (K0 0 ((reachL m m_1 m_3 m_4 m_5).map (·.1.1)) ((reachL m m_1 m_3 m_4 m_5).map (·.2))) := by
        refine .step (fun n => ?_) (.step (G := fun n => (run_tutorref04_Reach K0 n).2.2 1 0 0 m m_1 m_2 m_3 m_4 m_5 ((List.replicate m_3.toNat false).set 0 true) [0] [([] : List Int)]) (F := fun n => (run_tutorref04_Reach K0 n).2.1 1 0 m m_1 m_2 m_3 m_4 m_5 ((List.replicate m_3.toNat false).set 0 true) [0] [([] : List Int)]) (fun n => ?_) hr)
        · rw [show (run_tutorref04_Reach K0 (n + 1)).1 = s_tutorref04_Reach_9 (run_tutorref04_Reach K0 n).1 (run_tutorref04_Reach K0 n).2.1 (run_tutorref04_Reach K0 n).2.2 K0 from rfl]
          unfold s_tutorref04_Reach_9
          rw [br_pos (by simp)]
          rfl
        · rw [show (run_tutorref04_Reach K0 (n + 1)).2.1 = s_tutorref04_Reach_12 (run_tutorref04_Reach K0 n).1 (run_tutorref04_Reach K0 n).2.1 (run_tutorref04_Reach K0 n).2.2 K0 from rfl]
          unfold s_tutorref04_Reach_12
          rw [br_pos (by omega)]
      obtain ⟨n, hn⟩ := hr2.get
      refine ⟨n, ?_⟩
      rw [br_pos hs]
      try dsimp only
      rw [br_ne' c1, br_pos (by omega), List.length_replicate, br_pos (by omega)]
      exact hn
    · rw [if_pos (by simpa using c1)] at h'
      rw [← h']
      refine ⟨0, ?_⟩
      rw [br_pos hs]
      try dsimp only
      rw [br_ne c1]
  · cases h'

/-- tutor/tutorref04.pick -/
def s_tutorref04_pick_3 {R : Type} (g49_3 : (List Int) → (List Int) → Int → Int → Int → Int → Int → (List Int) → (List Int) → Int → Int → Int → Int → (List Int) → (List Int) → Int → Int → Int → Int → (List Int) → (List Int) → Option R) (g49_7 : (List Int) → (List Int) → Int → Int → Int → Int → Int → Int → Int → (List Int) → (List Int) → Int → Int → Int → Int → (List Int) → (List Int) → Int → Int → Int → Int → (List Int) → (List Int) → Option R) (K0 : Int → Int → Int → Int → (List Int) → (List Int) → Option R) (states : List Int) (place : List Int) (i : Int) (o0 : Int) (o0_1 : Int) (o0_2 : Int) (o0_3 : Int) (o0_4 : List Int) (o0_5 : List Int) (o1 : Int) (o1_1 : Int) (o1_2 : Int) (o1_3 : Int) (o2 : List Int) (o3 : List Int) (o4 : Int) (o4_1 : Int) (o4_2 : Int) (o4_3 : Int) (o5 : List Int) (o6 : List Int) : Option R :=
  bi (decide (i < (states.length : Int)))
   (bi (decide (0 ≤ i ∧ i < ((states.length : Nat) : Int)))
    (g49_7 states place i (states.getD i.toNat 0) 0 o0 o0_1 o0_2 o0_3 o0_4 o0_5 o1 o1_1 o1_2 o1_3 o2 o3 o4 o4_1 o4_2 o4_3 o5 o6)
    none)
   (K0 o4 o4_1 o4_2 o4_3 o5 o6)

/-- tutor/tutorref04.pick -/
def s_tutorref04_pick_7 {R : Type} (g49_3 : (List Int) → (List Int) → Int → Int → Int → Int → Int → (List Int) → (List Int) → Int → Int → Int → Int → (List Int) → (List Int) → Int → Int → Int → Int → (List Int) → (List Int) → Option R) (g49_7 : (List Int) → (List Int) → Int → Int → Int → Int → Int → Int → Int → (List Int) → (List Int) → Int → Int → Int → Int → (List Int) → (List Int) → Int → Int → Int → Int → (List Int) → (List Int) → Option R) (K0 : Int → Int → Int → Int → (List Int) → (List Int) → Option R) (states : List Int) (place : List Int) (i : Int) (s : Int) (x : Int) (o0 : Int) (o0_1 : Int) (o0_2 : Int) (o0_3 : Int) (o0_4 : List Int) (o0_5 : List Int) (o1 : Int) (o1_1 : Int) (o1_2 : Int) (o1_3 : Int) (o2 : List Int) (o3 : List Int) (o4 : Int) (o4_1 : Int) (o4_2 : Int) (o4_3 : Int) (o5 : List Int) (o6 : List Int) : Option R :=
  bi (decide (x < o0_1))
   (bi (decide (0 ≤ (IntKind.i64.wrap ((IntKind.i64.wrap (s * o0_1)) + x)) ∧ (IntKind.i64.wrap ((IntKind.i64.wrap (s * o0_1)) + x)) < ((o0_4.length : Nat) : Int)))
    (bi (decide (0 ≤ (o0_4.getD ((IntKind.i64.wrap ((IntKind.i64.wrap (s * o0_1)) + x)).toNat) 0) ∧ (o0_4.getD ((IntKind.i64.wrap ((IntKind.i64.wrap (s * o0_1)) + x)).toNat) 0) < ((place.length : Nat) : Int)))
     (bi (decide ((o5.length + [place.getD ((o0_4.getD ((IntKind.i64.wrap ((IntKind.i64.wrap (s * o0_1)) + x)).toNat) 0).toNat) 0].length) * 8 ≤ lim))
      (bi (o0 == 2)
       (bi (decide (0 ≤ (IntKind.i64.wrap ((IntKind.i64.wrap (s * o0_1)) + x)) ∧ (IntKind.i64.wrap ((IntKind.i64.wrap (s * o0_1)) + x)) < ((o0_5.length : Nat) : Int)))
        (bi (decide ((o6.length + [o0_5.getD ((IntKind.i64.wrap ((IntKind.i64.wrap (s * o0_1)) + x)).toNat) 0].length) * 8 ≤ lim))
         (g49_7 states place i s (IntKind.i64.wrap (x + 1)) o0 o0_1 o0_2 o0_3 o0_4 o0_5 o1 o1_1 o1_2 o1_3 o2 o3 o4 o4_1 o4_2 o4_3 (o5 ++ [place.getD ((o0_4.getD ((IntKind.i64.wrap ((IntKind.i64.wrap (s * o0_1)) + x)).toNat) 0).toNat) 0]) (o6 ++ [o0_5.getD ((IntKind.i64.wrap ((IntKind.i64.wrap (s * o0_1)) + x)).toNat) 0]))
         none)
        none)
       (g49_7 states place i s (IntKind.i64.wrap (x + 1)) o0 o0_1 o0_2 o0_3 o0_4 o0_5 o1 o1_1 o1_2 o1_3 o2 o3 o4 o4_1 o4_2 o4_3 (o5 ++ [place.getD ((o0_4.getD ((IntKind.i64.wrap ((IntKind.i64.wrap (s * o0_1)) + x)).toNat) 0).toNat) 0]) o6))
      none)
     none)
    none)
   (bi (o0 == 1)
    (bi (decide (0 ≤ s ∧ s < ((o0_5.length : Nat) : Int)))
     (bi (decide ((o6.length + [o0_5.getD s.toNat 0].length) * 8 ≤ lim))
      (g49_3 states place (IntKind.i64.wrap (i + 1)) o0 o0_1 o0_2 o0_3 o0_4 o0_5 o1 o1_1 o1_2 o1_3 o2 o3 o4 o4_1 o4_2 o4_3 o5 (o6 ++ [o0_5.getD s.toNat 0]))
      none)
     none)
    (g49_3 states place (IntKind.i64.wrap (i + 1)) o0 o0_1 o0_2 o0_3 o0_4 o0_5 o1 o1_1 o1_2 o1_3 o2 o3 o4 o4_1 o4_2 o4_3 o5 o6))

/-- tutor/tutorref04.pick -/
def e_tutorref04_pick {R : Type} (g49_3 : (List Int) → (List Int) → Int → Int → Int → Int → Int → (List Int) → (List Int) → Int → Int → Int → Int → (List Int) → (List Int) → Int → Int → Int → Int → (List Int) → (List Int) → Option R) (g49_7 : (List Int) → (List Int) → Int → Int → Int → Int → Int → Int → Int → (List Int) → (List Int) → Int → Int → Int → Int → (List Int) → (List Int) → Int → Int → Int → Int → (List Int) → (List Int) → Option R) (K0 : Int → Int → Int → Int → (List Int) → (List Int) → Option R) (m : Int) (m_1 : Int) (m_2 : Int) (m_3 : Int) (m_4 : List Int) (m_5 : List Int) (states : List Int) (place : List Int) : Option R :=
  g49_3 states place 0 m m_1 m_2 m_3 m_4 m_5 0 0 0 0 ([] : List Int) ([] : List Int) m m_1 m_2 (states.length : Int) ([] : List Int) ([] : List Int)

def run_tutorref04_pick {R : Type} (K0 : Int → Int → Int → Int → (List Int) → (List Int) → Option R) : Nat → ((List Int) → (List Int) → Int → Int → Int → Int → Int → (List Int) → (List Int) → Int → Int → Int → Int → (List Int) → (List Int) → Int → Int → Int → Int → (List Int) → (List Int) → Option R) × ((List Int) → (List Int) → Int → Int → Int → Int → Int → Int → Int → (List Int) → (List Int) → Int → Int → Int → Int → (List Int) → (List Int) → Int → Int → Int → Int → (List Int) → (List Int) → Option R)
  | 0 => (fun _ _ _ _ _ _ _ _ _ _ _ _ _ _ _ _ _ _ _ _ _ => none, fun _ _ _ _ _ _ _ _ _ _ _ _ _ _ _ _ _ _ _ _ _ _ _ => none)
  | n + 1 => (s_tutorref04_pick_3 (run_tutorref04_pick K0 n).1 (run_tutorref04_pick K0 n).2 K0, s_tutorref04_pick_7 (run_tutorref04_pick K0 n).1 (run_tutorref04_pick K0 n).2 K0)

def l_tutorref04_pick {R : Type} (m : Int) (m_1 : Int) (m_2 : Int) (m_3 : Int) (m_4 : List Int) (m_5 : List Int) (states : List Int) (place : List Int) (K0 : Int → Int → Int → Int → (List Int) → (List Int) → Option R) : Option R :=
  bi (decide ((checkR m m_1 m_2 m_3 m_4 m_5).2 = 0 ∧ (∀ s ∈ states, 0 ≤ s ∧ s < m_3) ∧ (place.length : Int) = m_3 ∧ states.length ≤ 1024)) (K0 m m_1 m_2 states.length (pickN m_1 m_4 states place) (pickO m m_1 m_5 states)) none

section
variable {R : Type} {k K O N : Int} {nx ou states place : List Int}

theorem pick_x (F : Fine k K O N nx ou) (hp : (place.length : Int) = N) (K0 : Int → Int → Int → Int → (List Int) → (List Int) → Option R) {v : Option R} {s : Int} (hs : 0 ≤ s ∧ s < N) {i : Nat} (hi : i ≤ 1024) {a b : List Int} (ha : a.length ≤ 1000000) (hb : b.length ≤ 1000000) {n4 : Int}
    (h : Reach (fun m => (run_tutorref04_pick K0 m).1 states place ((i + 1 : Nat) : Int) k K O N nx ou 0 0 0 0 [] [] k K O n4 (a ++ rowN K nx place s K.toNat) (b ++ rowO k K ou s K.toNat ++ endO k ou s)) v) :
    ∀ (d x : Nat), x + d = K.toNat → Reach (fun m => (run_tutorref04_pick K0 m).2 states place i s x k K O N nx ou 0 0 0 0 [] [] k K O n4 (a ++ rowN K nx place s x) (b ++ rowO k K ou s x)) v := by
  have hN := F.fN
  have hK := F.fK
  have hNK := mulK ⟨hN, hK⟩
  have hx := F.fnx
  intro d
  induction d with
  | zero =>
    intro x hxK
    have e : x = K.toNat := by omega
    subst e
    have hro := rowO_len k K ou s K.toNat
    refine .step (fun m => ?_) h
    rw [show (run_tutorref04_pick K0 (m + 1)).2 = s_tutorref04_pick_7 (run_tutorref04_pick K0 m).1 (run_tutorref04_pick K0 m).2 K0 from rfl]
    unfold s_tutorref04_pick_7 endO
    rw [br_neg (by omega), wr _ (by omega) (by omega)]
    by_cases hk : k = 1
    · have := F.fou1 hk
      rw [br_eq hk, br_pos (by omega), br_pos (by
        rw [List.length_append]
        show (_ + _ + 1) * 8 ≤ 140737488355328
        omega), if_pos hk]
      rfl
    · rw [br_eq' hk, if_neg hk, List.append_nil]
      rfl
  | succ d ih =>
    intro x hxK
    have hlt : (x : Int) < K := by omega
    have i1 := idx_in hs (x := (x : Int)) (K := K) ⟨by omega, hlt⟩
    have hn : 0 ≤ nx.getD (s * K + x).toNat 0 ∧ nx.getD (s * K + x).toNat 0 < N := by
      rw [getD_of 0 (by omega)]
      exact F.fnxs _ (List.getElem_mem _)
    have hro := rowO_len k K ou s x
    have ih' := ih (x + 1) (by omega)
    rw [rowN_next, rowO_next, ← List.append_assoc, ← List.append_assoc] at ih'
    refine .step (fun m => ?_) ih'
    rw [show (run_tutorref04_pick K0 (m + 1)).2 = s_tutorref04_pick_7 (run_tutorref04_pick K0 m).1 (run_tutorref04_pick K0 m).2 K0 from rfl]
    unfold s_tutorref04_pick_7
    rw [br_pos hlt, wr (s * K) (by omega) (by omega), wr (s * K + x) (by omega) (by omega), wr ((x : Int) + 1) (by omega) (by omega), br_pos (by omega), br_pos (by omega), br_pos (by
      rw [List.length_append, rowN_len]
      show (_ + _ + 1) * 8 ≤ 140737488355328
      omega)]
    by_cases hk : k = 2
    · have := F.fou2 hk
      rw [br_eq hk, br_pos (by omega), br_pos (by
        rw [List.length_append]
        show (_ + _ + 1) * 8 ≤ 140737488355328
        omega), if_pos hk]
      rfl
    · rw [br_eq' hk, if_neg hk, List.append_nil]
      rfl

theorem pickN_most (hK : 0 ≤ K ∧ K ≤ 64) {l : List Int} (hl : l.length ≤ 1024) : (pickN K nx l place).length ≤ 65536 := by
  rw [pickN_len]
  have : l.length * K.toNat ≤ 1024 * 64 := Nat.mul_le_mul hl (by omega)
  omega
theorem pickO_most (hK : 0 ≤ K ∧ K ≤ 64) {l : List Int} (hl : l.length ≤ 1024) : (pickO k K ou l).length ≤ 65536 := by
  rw [pickO_len]
  split
  · omega
  · have : l.length * K.toNat ≤ 1024 * 64 := Nat.mul_le_mul hl (by omega)
    omega

theorem pick_i (F : Fine k K O N nx ou) (hst : ∀ s ∈ states, 0 ≤ s ∧ s < N) (hp : (place.length : Int) = N) (hsl : states.length ≤ 1024) (K0 : Int → Int → Int → Int → (List Int) → (List Int) → Option R) : ∀ (d i : Nat), i + d = states.length →
    Reach (fun m => (run_tutorref04_pick K0 m).1 states place i k K O N nx ou 0 0 0 0 [] [] k K O (states.length : Int) (pickN K nx (states.take i) place) (pickO k K ou (states.take i))) (K0 k K O states.length (pickN K nx states place) (pickO k K ou states)) := by
  have hK := F.fK
  intro d
  induction d with
  | zero =>
    intro i hi
    refine .now fun m => ?_
    rw [show (run_tutorref04_pick K0 (m + 1)).1 = s_tutorref04_pick_3 (run_tutorref04_pick K0 m).1 (run_tutorref04_pick K0 m).2 K0 from rfl]
    unfold s_tutorref04_pick_3
    rw [br_neg (by omega), List.take_of_length_le (by omega)]
  | succ d ih =>
    intro i hi
    have hi' : i < states.length := by omega
    have ih' := ih (i + 1) (by omega)
    rw [List.take_add_one, List.getElem?_eq_getElem hi', show (some states[i]).toList = [states[i]] from rfl, pickN_snoc, pickO_snoc F.fk] at ih'
    have htl : (states.take i).length ≤ 1024 := by rw [List.length_take]; omega
    have h1 := pickN_most (nx := nx) (place := place) (K := K) (by omega) htl
    have h2 := pickO_most (k := k) (ou := ou) (K := K) (by omega) htl
    have := pick_x F hp K0 (hst _ (List.getElem_mem hi')) (i := i) (by omega) (by omega) (by omega) ih' K.toNat 0 (by omega)
    refine .step (fun m => ?_) this
    rw [show (run_tutorref04_pick K0 (m + 1)).1 = s_tutorref04_pick_3 (run_tutorref04_pick K0 m).1 (run_tutorref04_pick K0 m).2 K0 from rfl]
    unfold s_tutorref04_pick_3
    rw [br_pos (by omega), br_pos (by omega), Int.toNat_natCast, getD_of 0 hi']
    have e1 : rowN K nx place states[i] 0 = [] := rfl
    have e2 : rowO k K ou states[i] 0 = [] := by unfold rowO; split <;> rfl
    rw [e1, e2, List.append_nil, List.append_nil]
    rfl
end

theorem ok_tutorref04_pick {R : Type} (m : Int) (m_1 : Int) (m_2 : Int) (m_3 : Int) (m_4 : List Int) (m_5 : List Int) (states : List Int) (place : List Int) (K0 : Int → Int → Int → Int → (List Int) → (List Int) → Option R) {r : R} (h : l_tutorref04_pick m m_1 m_2 m_3 m_4 m_5 states place K0 = some r) : ∃ fuel, e_tutorref04_pick (run_tutorref04_pick K0 fuel).1 (run_tutorref04_pick K0 fuel).2 K0 m m_1 m_2 m_3 m_4 m_5 states place = some r := by
  unfold l_tutorref04_pick at h
  rcases bi_some h with ⟨hs, h'⟩ | ⟨_, h'⟩
  · obtain ⟨hc, h1, h2, h3⟩ := of_decide_eq_true hs
    have F := checkR_fine.1 hc
    rw [← h']
    obtain ⟨n, hn⟩ := (pick_i F h1 h2 h3 K0 states.length 0 (by omega)).get
    refine ⟨n, ?_⟩
    have e : pickO m m_1 m_5 (states.take 0) = [] := by unfold pickO; split <;> rfl
    rw [e] at hn
    exact hn
  · cases h'
theorem pick_eq {R : Type} {k K O N : Int} {nx ou states place : List Int} (F : Fine k K O N nx ou) (h1 : ∀ s ∈ states, 0 ≤ s ∧ s < N) (h2 : (place.length : Int) = N) (h3 : states.length ≤ 1024) (K0 : Int → Int → Int → Int → (List Int) → (List Int) → Option R) :
    l_tutorref04_pick k K O N nx ou states place K0 = K0 k K O states.length (pickN K nx states place) (pickO k K ou states) := by
  unfold l_tutorref04_pick
  rw [br_pos ⟨checkR_fine.2 F, h1, h2, h3⟩]

/-- tutor/tutorref04.Canon -/
def s_tutorref04_Canon_6 {R : Type} (g33_6 : Int → Int → Int → Int → Int → (List Int) → (List Int) → Int → Int → Int → Int → (List Int) → (List Int) → (List Int) → (List Int) → Option R) (K0 : Int → Int → Int → Int → Int → (List Int) → (List Int) → Option R) (i : Int) (o0 : Int) (o0_1 : Int) (o0_2 : Int) (o0_3 : Int) (o0_4 : List Int) (o0_5 : List Int) (o1 : Int) (o1_1 : Int) (o1_2 : Int) (o1_3 : Int) (o2 : List Int) (o3 : List Int) (o4 : List Int) (o5 : List Int) : Option R :=
  bi (decide (i < (o4.length : Int)))
   (bi (decide (0 ≤ i ∧ i < ((o4.length : Nat) : Int)))
    (bi (decide (0 ≤ (o4.getD i.toNat 0) ∧ (o4.getD i.toNat 0) < ((o5.length : Nat) : Int)))
     (g33_6 (IntKind.i64.wrap (i + 1)) o0 o0_1 o0_2 o0_3 o0_4 o0_5 o1 o1_1 o1_2 o1_3 o2 o3 o4 (o5.set ((o4.getD i.toNat 0).toNat) i))
     none)
    none)
   (l_tutorref04_pick o0 o0_1 o0_2 o0_3 o0_4 o0_5 o4 o5
    (fun r4 r5 r6 r7 r8 r9 =>
     K0 r4 r5 r6 r7 0 r8 r9))

/-- tutor/tutorref04.Canon -/
def e_tutorref04_Canon {R : Type} (g33_6 : Int → Int → Int → Int → Int → (List Int) → (List Int) → Int → Int → Int → Int → (List Int) → (List Int) → (List Int) → (List Int) → Option R) (K0 : Int → Int → Int → Int → Int → (List Int) → (List Int) → Option R) (m : Int) (m_1 : Int) (m_2 : Int) (m_3 : Int) (m_4 : List Int) (m_5 : List Int) : Option R :=
  l_tutorref04_Reach m m_1 m_2 m_3 m_4 m_5
   (fun r1 r2 r3 =>
    bi (r1 != 0)
     (K0 0 0 0 0 r1 ([] : List Int) ([] : List Int))
     (bi (decide (0 ≤ m_3 ∧ m_3 ≤ m_3 ∧ m_3 ≤ 1073741824))
      (g33_6 0 m m_1 m_2 m_3 m_4 m_5 0 0 0 0 ([] : List Int) ([] : List Int) r2 (List.replicate m_3.toNat (0 : Int)))
      none))

def run_tutorref04_Canon {R : Type} (K0 : Int → Int → Int → Int → Int → (List Int) → (List Int) → Option R) : Nat → Int → Int → Int → Int → Int → (List Int) → (List Int) → Int → Int → Int → Int → (List Int) → (List Int) → (List Int) → (List Int) → Option R
  | 0 => fun _ _ _ _ _ _ _ _ _ _ _ _ _ _ _ => none
  | n + 1 => s_tutorref04_Canon_6 (run_tutorref04_Canon K0 n) K0

/-- The one form of a machine. -/
def canonS (k K O N : Int) (nx ou : List Int) : Int × Int × Int × Int × Int × List Int × List Int :=
  if (checkR k K O N nx ou).2 ≠ 0 then (0, 0, 0, 0, (checkR k K O N nx ou).2, [], []) else
    (k, K, O, ((reachL k K N nx ou).length : Int), 0, pickN K nx ((reachL k K N nx ou).map (·.1.1)) (placeS ((reachL k K N nx ou).map (·.1.1)) (reachL k K N nx ou).length (List.replicate N.toNat 0)), pickO k K ou ((reachL k K N nx ou).map (·.1.1)))

def l_tutorref04_Canon {R : Type} (m : Int) (m_1 : Int) (m_2 : Int) (m_3 : Int) (m_4 : List Int) (m_5 : List Int) (K0 : Int → Int → Int → Int → Int → (List Int) → (List Int) → Option R) : Option R :=
  bi (decide (short m_4 ∧ short m_5)) (K0 (canonS m m_1 m_2 m_3 m_4 m_5).1 (canonS m m_1 m_2 m_3 m_4 m_5).2.1 (canonS m m_1 m_2 m_3 m_4 m_5).2.2.1 (canonS m m_1 m_2 m_3 m_4 m_5).2.2.2.1 (canonS m m_1 m_2 m_3 m_4 m_5).2.2.2.2.1 (canonS m m_1 m_2 m_3 m_4 m_5).2.2.2.2.2.1 (canonS m m_1 m_2 m_3 m_4 m_5).2.2.2.2.2.2) none

/-- The states that are come to. -/
theorem reach_states {k K O N : Int} {nx ou : List Int} (F : Fine k K O N nx ou) : (∀ s ∈ (reachL k K N nx ou).map (·.1.1), 0 ≤ s ∧ s < N) ∧ ((reachL k K N nx ou).map (·.1.1)).Nodup ∧ (reachL k K N nx ou).length ≤ 1024 ∧ (∀ e ∈ reachL k K N nx ou, e.1.2 = e.1.1) := by
  have G := reach_grown F
  have hN := F.fN
  have h1 : ∀ s ∈ (reachL k K N nx ou).map (·.1.1), 0 ≤ s ∧ s < N := fun s hs => by
    obtain ⟨e, he, rfl⟩ := List.mem_map.1 hs
    exact (G.inv.inn e he).1
  have hd : ∀ e ∈ reachL k K N nx ou, e.1.2 = e.1.1 := fun e he => by
    have := G.go e he
    rw [go_fst] at this
    rw [← this]
    rfl
  have h2 : ((reachL k K N nx ou).map (·.1.1)).Nodup := by
    have nd := G.inv.nd
    have e : (reachL k K N nx ou).map (·.1) = ((reachL k K N nx ou).map (·.1.1)).map fun s => (s, s) := by
      rw [List.map_map]
      refine List.map_congr_left fun e he => ?_
      show e.1 = (e.1.1, e.1.1)
      exact Prod.ext rfl (hd e he)
    rw [e] at nd
    generalize (reachL k K N nx ou).map (·.1.1) = l at nd
    induction l with
    | nil => simp
    | cons a t ih =>
      rw [List.map_cons, List.nodup_cons] at nd
      rw [List.nodup_cons]
      exact ⟨fun h => nd.1 (List.mem_map.2 ⟨a, h, rfl⟩), ih nd.2⟩
  refine ⟨h1, h2, ?_, hd⟩
  have := nodup_le N.toNat (((reachL k K N nx ou).map (·.1.1)).map Int.toNat) (by
    generalize (reachL k K N nx ou).map (·.1.1) = l at h1 h2
    induction l with
    | nil => simp
    | cons a t ih =>
      rw [List.nodup_cons] at h2
      rw [List.map_cons, List.nodup_cons]
      refine ⟨fun h => ?_, ih (fun s hs => h1 s (by simp [hs])) h2.2⟩
      obtain ⟨b, hb, e⟩ := List.mem_map.1 h
      have ha := h1 a (by simp)
      have hb' := h1 b (by simp [hb])
      exact h2.1 (by rw [show a = b by omega]; exact hb)) (fun x hx => by
    obtain ⟨s, hs, rfl⟩ := List.mem_map.1 hx
    have := h1 s hs
    omega)
  rw [List.length_map, List.length_map] at this
  omega

theorem canon_run {R : Type} {k K O N : Int} {nx ou : List Int} (F : Fine k K O N nx ou) {states : List Int} (hst : ∀ s ∈ states, 0 ≤ s ∧ s < N) (hsl : states.length ≤ 1024) (K0 : Int → Int → Int → Int → Int → (List Int) → (List Int) → Option R) : ∀ (d i : Nat), i + d = states.length →
    Reach (fun m => run_tutorref04_Canon K0 m i k K O N nx ou 0 0 0 0 [] [] states (placeS states i (List.replicate N.toNat 0))) (K0 k K O (states.length : Int) 0 (pickN K nx states (placeS states states.length (List.replicate N.toNat 0))) (pickO k K ou states)) := by
  have hN := F.fN
  intro d
  induction d with
  | zero =>
    intro i hi
    have e : i = states.length := by omega
    subst e
    refine .now fun m => ?_
    rw [show run_tutorref04_Canon K0 (m + 1) = s_tutorref04_Canon_6 (run_tutorref04_Canon K0 m) K0 from rfl]
    unfold s_tutorref04_Canon_6
    rw [br_neg (by omega), pick_eq F hst (by rw [placeS_len, List.length_replicate]; omega) hsl]
  | succ d ih =>
    intro i hi
    have hi' : i < states.length := by omega
    have hs := hst _ (getD_mem (d := 0) hi')
    refine .step (fun m => ?_) (ih (i + 1) (by omega))
    rw [show run_tutorref04_Canon K0 (m + 1) = s_tutorref04_Canon_6 (run_tutorref04_Canon K0 m) K0 from rfl]
    unfold s_tutorref04_Canon_6
    rw [br_pos (by omega), br_pos (by omega), Int.toNat_natCast, placeS_len, List.length_replicate, br_pos (by omega), wr _ (by omega) (by omega)]
    rfl

theorem ok_tutorref04_Canon {R : Type} (m : Int) (m_1 : Int) (m_2 : Int) (m_3 : Int) (m_4 : List Int) (m_5 : List Int) (K0 : Int → Int → Int → Int → Int → (List Int) → (List Int) → Option R) {r : R} (h : l_tutorref04_Canon m m_1 m_2 m_3 m_4 m_5 K0 = some r) : ∃ fuel, e_tutorref04_Canon (run_tutorref04_Canon K0 fuel) K0 m m_1 m_2 m_3 m_4 m_5 = some r := by
  unfold l_tutorref04_Canon at h
  rcases bi_some h with ⟨hs, h'⟩ | ⟨_, h'⟩
  · have hs := of_decide_eq_true hs
    rw [← h']
    unfold e_tutorref04_Canon canonS l_tutorref04_Reach
    by_cases c1 : (checkR m m_1 m_2 m_3 m_4 m_5).2 = 0
    · have F := checkR_fine.1 c1
      have hN := F.fN
      obtain ⟨h1, h2, h3, _⟩ := reach_states F
      obtain ⟨n, hn⟩ := (canon_run F h1 (by rw [List.length_map]; exact h3) K0 _ 0 (Nat.zero_add _)).get
      refine ⟨n, ?_⟩
      rw [br_pos hs, if_neg (by simpa using c1), if_neg (by simpa using c1)]
      try dsimp only
      rw [br_ne' rfl, br_pos (by omega)]
      rw [List.length_map] at hn
      exact hn
    · refine ⟨0, ?_⟩
      rw [br_pos hs, if_pos (by simpa using c1), if_pos (by simpa using c1)]
      try dsimp only
      rw [br_ne c1]
  · cases h'
theorem canon_eq {R : Type} {k K O N : Int} {nx ou : List Int} (h1 : short nx) (h2 : short ou) (K0 : Int → Int → Int → Int → Int → (List Int) → (List Int) → Option R) :
    l_tutorref04_Canon k K O N nx ou K0 = K0 (canonS k K O N nx ou).1 (canonS k K O N nx ou).2.1 (canonS k K O N nx ou).2.2.1 (canonS k K O N nx ou).2.2.2.1 (canonS k K O N nx ou).2.2.2.2.1 (canonS k K O N nx ou).2.2.2.2.2.1 (canonS k K O N nx ou).2.2.2.2.2.2 := by
  unfold l_tutorref04_Canon
  rw [br_pos ⟨h1, h2⟩]

/-- tutor/tutorref05.Minimise -/
def s_tutorref05_Minimise_6 {R : Type} (g21_6 : Int → Int → Int → Int → Int → (List Int) → (List Int) → Int → Int → Int → Int → (List Int) → (List Int) → (List Int) → Int → Int → Int → Int → (List Int) → (List Int) → Option R) (g21_11 : Int → Int → Int → Int → Int → Int → (List Int) → (List Int) → Int → Int → Int → Int → (List Int) → (List Int) → (List Int) → Int → Int → Int → Int → (List Int) → (List Int) → Option R) (K0 : Int → Int → Int → Int → Int → (List Int) → (List Int) → Option R) (s : Int) (o0 : Int) (o0_1 : Int) (o0_2 : Int) (o0_3 : Int) (o0_4 : List Int) (o0_5 : List Int) (o1 : Int) (o1_1 : Int) (o1_2 : Int) (o1_3 : Int) (o2 : List Int) (o3 : List Int) (o4 : List Int) (o5 : Int) (o5_1 : Int) (o5_2 : Int) (o5_3 : Int) (o6 : List Int) (o7 : List Int) : Option R :=
  bi (decide (s < o0_3))
   (bi (decide (0 ≤ s ∧ s < ((o4.length : Nat) : Int)))
    (bi ((o4.getD s.toNat 0) != o5_3)
     (g21_6 (IntKind.i64.wrap (s + 1)) o0 o0_1 o0_2 o0_3 o0_4 o0_5 o1 o1_1 o1_2 o1_3 o2 o3 o4 o5 o5_1 o5_2 o5_3 o6 o7)
     (g21_11 s 0 o0 o0_1 o0_2 o0_3 o0_4 o0_5 o1 o1_1 o1_2 o1_3 o2 o3 o4 o5 o5_1 o5_2 (IntKind.i64.wrap (o5_3 + 1)) o6 o7))
    none)
   (l_tutorref04_Canon o5 o5_1 o5_2 o5_3 o6 o7
    (fun r4 r5 r6 r7 r8 r9 r10 =>
     K0 r4 r5 r6 r7 r8 r9 r10))

/-- tutor/tutorref05.Minimise -/
def s_tutorref05_Minimise_11 {R : Type} (g21_6 : Int → Int → Int → Int → Int → (List Int) → (List Int) → Int → Int → Int → Int → (List Int) → (List Int) → (List Int) → Int → Int → Int → Int → (List Int) → (List Int) → Option R) (g21_11 : Int → Int → Int → Int → Int → Int → (List Int) → (List Int) → Int → Int → Int → Int → (List Int) → (List Int) → (List Int) → Int → Int → Int → Int → (List Int) → (List Int) → Option R) (K0 : Int → Int → Int → Int → Int → (List Int) → (List Int) → Option R) (s : Int) (x : Int) (o0 : Int) (o0_1 : Int) (o0_2 : Int) (o0_3 : Int) (o0_4 : List Int) (o0_5 : List Int) (o1 : Int) (o1_1 : Int) (o1_2 : Int) (o1_3 : Int) (o2 : List Int) (o3 : List Int) (o4 : List Int) (o5 : Int) (o5_1 : Int) (o5_2 : Int) (o5_3 : Int) (o6 : List Int) (o7 : List Int) : Option R :=
  bi (decide (x < o0_1))
   (bi (decide (0 ≤ (IntKind.i64.wrap ((IntKind.i64.wrap (s * o0_1)) + x)) ∧ (IntKind.i64.wrap ((IntKind.i64.wrap (s * o0_1)) + x)) < ((o0_4.length : Nat) : Int)))
    (bi (decide (0 ≤ (o0_4.getD ((IntKind.i64.wrap ((IntKind.i64.wrap (s * o0_1)) + x)).toNat) 0) ∧ (o0_4.getD ((IntKind.i64.wrap ((IntKind.i64.wrap (s * o0_1)) + x)).toNat) 0) < ((o4.length : Nat) : Int)))
     (bi (decide ((o6.length + [o4.getD ((o0_4.getD ((IntKind.i64.wrap ((IntKind.i64.wrap (s * o0_1)) + x)).toNat) 0).toNat) 0].length) * 8 ≤ lim))
      (bi (o0 == 2)
       (bi (decide (0 ≤ (IntKind.i64.wrap ((IntKind.i64.wrap (s * o0_1)) + x)) ∧ (IntKind.i64.wrap ((IntKind.i64.wrap (s * o0_1)) + x)) < ((o0_5.length : Nat) : Int)))
        (bi (decide ((o7.length + [o0_5.getD ((IntKind.i64.wrap ((IntKind.i64.wrap (s * o0_1)) + x)).toNat) 0].length) * 8 ≤ lim))
         (g21_11 s (IntKind.i64.wrap (x + 1)) o0 o0_1 o0_2 o0_3 o0_4 o0_5 o1 o1_1 o1_2 o1_3 o2 o3 o4 o5 o5_1 o5_2 o5_3 (o6 ++ [o4.getD ((o0_4.getD ((IntKind.i64.wrap ((IntKind.i64.wrap (s * o0_1)) + x)).toNat) 0).toNat) 0]) (o7 ++ [o0_5.getD ((IntKind.i64.wrap ((IntKind.i64.wrap (s * o0_1)) + x)).toNat) 0]))
         none)
        none)
       (g21_11 s (IntKind.i64.wrap (x + 1)) o0 o0_1 o0_2 o0_3 o0_4 o0_5 o1 o1_1 o1_2 o1_3 o2 o3 o4 o5 o5_1 o5_2 o5_3 (o6 ++ [o4.getD ((o0_4.getD ((IntKind.i64.wrap ((IntKind.i64.wrap (s * o0_1)) + x)).toNat) 0).toNat) 0]) o7))
      none)
     none)
    none)
   (bi (o0 == 1)
    (bi (decide (0 ≤ s ∧ s < ((o0_5.length : Nat) : Int)))
     (bi (decide ((o7.length + [o0_5.getD s.toNat 0].length) * 8 ≤ lim))
      (g21_6 (IntKind.i64.wrap (s + 1)) o0 o0_1 o0_2 o0_3 o0_4 o0_5 o1 o1_1 o1_2 o1_3 o2 o3 o4 o5 o5_1 o5_2 o5_3 o6 (o7 ++ [o0_5.getD s.toNat 0]))
      none)
     none)
    (g21_6 (IntKind.i64.wrap (s + 1)) o0 o0_1 o0_2 o0_3 o0_4 o0_5 o1 o1_1 o1_2 o1_3 o2 o3 o4 o5 o5_1 o5_2 o5_3 o6 o7))

/-- tutor/tutorref05.Minimise -/
def e_tutorref05_Minimise {R : Type} (g21_6 : Int → Int → Int → Int → Int → (List Int) → (List Int) → Int → Int → Int → Int → (List Int) → (List Int) → (List Int) → Int → Int → Int → Int → (List Int) → (List Int) → Option R) (g21_11 : Int → Int → Int → Int → Int → Int → (List Int) → (List Int) → Int → Int → Int → Int → (List Int) → (List Int) → (List Int) → Int → Int → Int → Int → (List Int) → (List Int) → Option R) (K0 : Int → Int → Int → Int → Int → (List Int) → (List Int) → Option R) (m : Int) (m_1 : Int) (m_2 : Int) (m_3 : Int) (m_4 : List Int) (m_5 : List Int) : Option R :=
  l_tutorref05_Classes m m_1 m_2 m_3 m_4 m_5
   (fun r1 r2 r3 =>
    bi (r2 != 0)
     (K0 0 0 0 0 r2 ([] : List Int) ([] : List Int))
     (g21_6 0 m m_1 m_2 m_3 m_4 m_5 0 0 0 0 ([] : List Int) ([] : List Int) r3 m m_1 m_2 0 ([] : List Int) ([] : List Int)))

def run_tutorref05_Minimise {R : Type} (K0 : Int → Int → Int → Int → Int → (List Int) → (List Int) → Option R) : Nat → (Int → Int → Int → Int → Int → (List Int) → (List Int) → Int → Int → Int → Int → (List Int) → (List Int) → (List Int) → Int → Int → Int → Int → (List Int) → (List Int) → Option R) × (Int → Int → Int → Int → Int → Int → (List Int) → (List Int) → Int → Int → Int → Int → (List Int) → (List Int) → (List Int) → Int → Int → Int → Int → (List Int) → (List Int) → Option R)
  | 0 => (fun _ _ _ _ _ _ _ _ _ _ _ _ _ _ _ _ _ _ _ _ => none, fun _ _ _ _ _ _ _ _ _ _ _ _ _ _ _ _ _ _ _ _ _ => none)
  | n + 1 => (s_tutorref05_Minimise_6 (run_tutorref05_Minimise K0 n).1 (run_tutorref05_Minimise K0 n).2 K0, s_tutorref05_Minimise_11 (run_tutorref05_Minimise K0 n).1 (run_tutorref05_Minimise K0 n).2 K0)

/-- The least machine, in its one form. -/
def minimS (k K O N : Int) (nx ou : List Int) : Int × Int × Int × Int × Int × List Int × List Int :=
  if (checkR k K O N nx ou).2 ≠ 0 then (0, 0, 0, 0, (checkR k K O N nx ou).2, [], []) else
    canonS k K O ((repsL (apartF k K N nx ou) N.toNat).length : Int) (pickN K nx (repsL (apartF k K N nx ou) N.toNat) (clsF (apartF k K N nx ou) N.toNat).1) (pickO k K ou (repsL (apartF k K N nx ou) N.toNat))

def l_tutorref05_Minimise {R : Type} (m : Int) (m_1 : Int) (m_2 : Int) (m_3 : Int) (m_4 : List Int) (m_5 : List Int) (K0 : Int → Int → Int → Int → Int → (List Int) → (List Int) → Option R) : Option R :=
  bi (decide (short m_4 ∧ short m_5)) (K0 (minimS m m_1 m_2 m_3 m_4 m_5).1 (minimS m m_1 m_2 m_3 m_4 m_5).2.1 (minimS m m_1 m_2 m_3 m_4 m_5).2.2.1 (minimS m m_1 m_2 m_3 m_4 m_5).2.2.2.1 (minimS m m_1 m_2 m_3 m_4 m_5).2.2.2.2.1 (minimS m m_1 m_2 m_3 m_4 m_5).2.2.2.2.2.1 (minimS m m_1 m_2 m_3 m_4 m_5).2.2.2.2.2.2) none

section
variable {R : Type} {k K O N : Int} {nx ou place : List Int}

theorem min_x (F : Fine k K O N nx ou) (hp : (place.length : Int) = N) (K0 : Int → Int → Int → Int → Int → (List Int) → (List Int) → Option R) {v : Option R} {s : Nat} (hs : (s : Int) < N) {a b : List Int} (ha : a.length ≤ 1000000) (hb : b.length ≤ 1000000) {n4 : Int}
    (h : Reach (fun m => (run_tutorref05_Minimise K0 m).1 ((s + 1 : Nat) : Int) k K O N nx ou 0 0 0 0 [] [] place k K O n4 (a ++ rowN K nx place s K.toNat) (b ++ rowO k K ou s K.toNat ++ endO k ou s)) v) :
    ∀ (d x : Nat), x + d = K.toNat → Reach (fun m => (run_tutorref05_Minimise K0 m).2 s x k K O N nx ou 0 0 0 0 [] [] place k K O n4 (a ++ rowN K nx place s x) (b ++ rowO k K ou s x)) v := by
  have hN := F.fN
  have hK := F.fK
  have hNK := mulK ⟨hN, hK⟩
  have hx := F.fnx
  intro d
  induction d with
  | zero =>
    intro x hxK
    have e : x = K.toNat := by omega
    subst e
    have hro := rowO_len k K ou s K.toNat
    refine .step (fun m => ?_) h
    rw [show (run_tutorref05_Minimise K0 (m + 1)).2 = s_tutorref05_Minimise_11 (run_tutorref05_Minimise K0 m).1 (run_tutorref05_Minimise K0 m).2 K0 from rfl]
    unfold s_tutorref05_Minimise_11 endO
    rw [br_neg (by omega), wr _ (by omega) (by omega)]
    by_cases hk : k = 1
    · have := F.fou1 hk
      rw [br_eq hk, br_pos (by omega), br_pos (by
        rw [List.length_append]
        show (_ + _ + 1) * 8 ≤ 140737488355328
        omega), if_pos hk]
      rfl
    · rw [br_eq' hk, if_neg hk, List.append_nil]
      rfl
  | succ d ih =>
    intro x hxK
    have hlt : (x : Int) < K := by omega
    have i1 := idx_in (s := (s : Int)) (N := N) ⟨by omega, hs⟩ (x := (x : Int)) (K := K) ⟨by omega, hlt⟩
    have hn : 0 ≤ nx.getD ((s : Int) * K + x).toNat 0 ∧ nx.getD ((s : Int) * K + x).toNat 0 < N := by
      rw [getD_of 0 (by omega)]
      exact F.fnxs _ (List.getElem_mem _)
    have hro := rowO_len k K ou s x
    have ih' := ih (x + 1) (by omega)
    rw [rowN_next, rowO_next, ← List.append_assoc, ← List.append_assoc] at ih'
    refine .step (fun m => ?_) ih'
    rw [show (run_tutorref05_Minimise K0 (m + 1)).2 = s_tutorref05_Minimise_11 (run_tutorref05_Minimise K0 m).1 (run_tutorref05_Minimise K0 m).2 K0 from rfl]
    unfold s_tutorref05_Minimise_11
    rw [br_pos hlt, wr ((s : Int) * K) (by omega) (by omega), wr ((s : Int) * K + x) (by omega) (by omega), wr ((x : Int) + 1) (by omega) (by omega), br_pos (by omega), br_pos (by omega), br_pos (by
      rw [List.length_append, rowN_len]
      show (_ + _ + 1) * 8 ≤ 140737488355328
      omega)]
    by_cases hk : k = 2
    · have := F.fou2 hk
      rw [br_eq hk, br_pos (by omega), br_pos (by
        rw [List.length_append]
        show (_ + _ + 1) * 8 ≤ 140737488355328
        omega), if_pos hk]
      rfl
    · rw [br_eq' hk, if_neg hk, List.append_nil]
      rfl

theorem min_s (F : Fine k K O N nx ou) (f : Nat → Nat → Bool) (K0 : Int → Int → Int → Int → Int → (List Int) → (List Int) → Option R) (V : Option R)
    (hV : l_tutorref04_Canon k K O ((repsL f N.toNat).length : Int) (pickN K nx (repsL f N.toNat) (clsF f N.toNat).1) (pickO k K ou (repsL f N.toNat)) K0 = V) : ∀ (d s : Nat), s + d = N.toNat →
    Reach (fun m => (run_tutorref05_Minimise K0 m).1 s k K O N nx ou 0 0 0 0 [] [] (clsF f N.toNat).1 k K O ((repsL f s).length : Int) (pickN K nx (repsL f s) (clsF f N.toNat).1) (pickO k K ou (repsL f s))) V := by
  have hN := F.fN
  have hK := F.fK
  have hcl := clsF_len f N.toNat
  intro d
  induction d with
  | zero =>
    intro s hs
    have e : s = N.toNat := by omega
    subst e
    refine .now fun m => ?_
    rw [show (run_tutorref05_Minimise K0 (m + 1)).1 = s_tutorref05_Minimise_6 (run_tutorref05_Minimise K0 m).1 (run_tutorref05_Minimise K0 m).2 K0 from rfl]
    unfold s_tutorref05_Minimise_6
    rw [br_neg (by omega)]
    exact hV
  | succ d ih =>
    intro s hs
    have ih' := ih (s + 1) (by omega)
    have hfirst := clsF_first f (s := s) (n := N.toNat) (by omega)
    have hlen := repsL_len f s
    have hle := (clsF_in f s).1
    cases hf : findP (fun t => !f s t) (List.range s) with
    | none =>
      have hc := hfirst.1.1 hf
      have e : repsL f (s + 1) = repsL f s ++ [(s : Int)] := by simp only [repsL]; rw [if_pos hf]
      rw [e, pickN_snoc, pickO_snoc F.fk, List.length_append, List.length_singleton] at ih'
      have hb : (repsL f s).length ≤ 1024 := by omega
      have h1 := pickN_most (nx := nx) (place := (clsF f N.toNat).1) (K := K) (by omega) hb
      have h2 := pickO_most (k := k) (ou := ou) (K := K) (by omega) hb
      have := min_x F (place := (clsF f N.toNat).1) (by omega) K0 (s := s) (by omega) (by omega) (by omega) ih' K.toNat 0 (by omega)
      refine .step (fun m => ?_) this
      rw [show (run_tutorref05_Minimise K0 (m + 1)).1 = s_tutorref05_Minimise_6 (run_tutorref05_Minimise K0 m).1 (run_tutorref05_Minimise K0 m).2 K0 from rfl]
      unfold s_tutorref05_Minimise_6
      have e1 : rowN K nx (clsF f N.toNat).1 s 0 = [] := rfl
      have e2 : rowO k K ou s 0 = [] := by unfold rowO; split <;> rfl
      rw [br_pos (by omega), br_pos (by omega), Int.toNat_natCast, br_ne' (by omega), wr _ (by omega) (by omega), e1, e2, List.append_nil, List.append_nil]
      rfl
    | some t =>
      have hc : (clsF f N.toNat).1.getD s 0 ≠ (clsF f s).2 := fun h => by
        have := hfirst.1.2 h
        rw [hf] at this
        cases this
      have e : repsL f (s + 1) = repsL f s := by simp only [repsL]; rw [if_neg (by rw [hf]; simp)]
      rw [e] at ih'
      refine .step (fun m => ?_) ih'
      rw [show (run_tutorref05_Minimise K0 (m + 1)).1 = s_tutorref05_Minimise_6 (run_tutorref05_Minimise K0 m).1 (run_tutorref05_Minimise K0 m).2 K0 from rfl]
      unfold s_tutorref05_Minimise_6
      rw [br_pos (by omega), br_pos (by omega), Int.toNat_natCast, br_ne (by omega), wr _ (by omega) (by omega)]
      rfl
end

theorem ok_tutorref05_Minimise {R : Type} (m : Int) (m_1 : Int) (m_2 : Int) (m_3 : Int) (m_4 : List Int) (m_5 : List Int) (K0 : Int → Int → Int → Int → Int → (List Int) → (List Int) → Option R) {r : R} (h : l_tutorref05_Minimise m m_1 m_2 m_3 m_4 m_5 K0 = some r) : ∃ fuel, e_tutorref05_Minimise (run_tutorref05_Minimise K0 fuel).1 (run_tutorref05_Minimise K0 fuel).2 K0 m m_1 m_2 m_3 m_4 m_5 = some r := by
  unfold l_tutorref05_Minimise at h
  rcases bi_some h with ⟨hs, h'⟩ | ⟨_, h'⟩
  · have hs := of_decide_eq_true hs
    rw [← h']
    unfold e_tutorref05_Minimise
    simp only [cls_eq hs.1 hs.2]
    unfold classesS minimS
    by_cases c1 : (checkR m m_1 m_2 m_3 m_4 m_5).2 = 0
    · have F := checkR_fine.1 c1
      have hN := F.fN
      have hK := F.fK
      have hb : (repsL (apartF m m_1 m_3 m_4 m_5) m_3.toNat).length ≤ 1024 := by
        have h1 := repsL_len (apartF m m_1 m_3 m_4 m_5) m_3.toNat
        have h2 := (clsF_in (apartF m m_1 m_3 m_4 m_5) m_3.toNat).1
        omega
      have h1 := pickN_most (nx := m_4) (place := (clsF (apartF m m_1 m_3 m_4 m_5) m_3.toNat).1) (K := m_1) (by omega) hb
      have h2 := pickO_most (k := m) (ou := m_5) (K := m_1) (by omega) hb
      obtain ⟨n, hn⟩ := (min_s F (apartF m m_1 m_3 m_4 m_5) K0 _ (canon_eq (by unfold short; omega) (by unfold short; omega) K0) m_3.toNat 0 (by omega)).get
      refine ⟨n, ?_⟩
      rw [if_neg (by simpa using c1), if_neg (by simpa using c1)]
      try dsimp only
      rw [br_ne' rfl]
      have e : pickO m m_1 m_5 (repsL (apartF m m_1 m_3 m_4 m_5) 0) = [] := by unfold pickO; split <;> rfl
      rw [e] at hn
      exact hn
    · refine ⟨0, ?_⟩
      rw [if_pos (by simpa using c1), if_pos (by simpa using c1)]
      try dsimp only
      rw [br_ne c1]
  · cases h'
theorem minim_eq {R : Type} {k K O N : Int} {nx ou : List Int} (h1 : short nx) (h2 : short ou) (K0 : Int → Int → Int → Int → Int → (List Int) → (List Int) → Option R) :
    l_tutorref05_Minimise k K O N nx ou K0 = K0 (minimS k K O N nx ou).1 (minimS k K O N nx ou).2.1 (minimS k K O N nx ou).2.2.1 (minimS k K O N nx ou).2.2.2.1 (minimS k K O N nx ou).2.2.2.2.1 (minimS k K O N nx ou).2.2.2.2.2.1 (minimS k K O N nx ou).2.2.2.2.2.2 := by
  unfold l_tutorref05_Minimise
  rw [br_pos ⟨h1, h2⟩]

/-! ### What is said by the least machine -/

section
variable {f : Nat → Nat → Bool} {n : Nat}

theorem findP_true {p : Nat → Bool} {s t : Nat} (h : findP p (List.range s) = some t) : t < s ∧ p t = true := by
  have key : ∀ (l : List Nat) (i : Nat), findP p l = some i → p (l.getD i 0) = true := by
    intro l
    induction l with
    | nil => intro i h; cases h
    | cons a l ih =>
      intro i h
      simp only [findP] at h
      split at h
      · rename_i ha
        cases h
        exact ha
      · cases hf : findP p l with
        | none => rw [hf] at h; cases h
        | some j =>
          rw [hf] at h
          cases h
          exact ih j hf
  have h1 := findP_lt h
  rw [List.length_range] at h1
  refine ⟨h1, ?_⟩
  have h2 := key _ _ h
  rwa [getD_of 0 (by simpa using h1), List.getElem_range] at h2

/-- The first of its class is alike. -/
theorem cls_rep (hr : ∀ s, s < n → f s s = false) (hy : ∀ a b, a < n → b < n → f a b = false → f b a = false) (ht : ∀ a b c, a < n → b < n → c < n → f a b = false → f b c = false → f a c = false) : ∀ (m : Nat), m ≤ n → ∀ s, s < m →
    f ((repsL f m).getD ((clsF f m).1.getD s 0).toNat 0).toNat s = false
  | 0, _, s, hs => absurd hs (by omega)
  | m + 1, hm, s, hs => by
    have hl := clsF_len f m
    have hin := clsF_in f m
    have hrl := repsL_len f m
    cases hf : findP (fun t => !f m t) (List.range m) with
    | none =>
      have e : repsL f (m + 1) = repsL f m ++ [(m : Int)] := by simp only [repsL]; rw [if_pos hf]
      have e2 : (clsF f (m + 1)).1 = (clsF f m).1 ++ [(clsF f m).2] := by simp only [clsF, hf]
      rw [e, e2]
      by_cases c : s < m
      · have g : ((clsF f m).1 ++ [(clsF f m).2]).getD s 0 = (clsF f m).1.getD s 0 := by rw [getD_snoc, if_pos (by omega)]
        have hc := hin.2 _ (getD_mem (l := (clsF f m).1) (i := s) (d := 0) (by omega))
        rw [g, getD_snoc, if_pos (by omega)]
        exact cls_rep hr hy ht m (by omega) s c
      · have : s = m := by omega
        subst this
        have g : ((clsF f s).1 ++ [(clsF f s).2]).getD s 0 = (clsF f s).2 := by rw [getD_snoc, if_neg (by omega), if_pos (by omega)]
        rw [g, getD_snoc, if_neg (by omega), if_pos (by omega), Int.toNat_natCast]
        exact hr s (by omega)
    | some t =>
      obtain ⟨htm, htf⟩ := findP_true hf
      have htf : f m t = false := by simpa using htf
      have e : repsL f (m + 1) = repsL f m := by simp only [repsL]; rw [if_neg (by rw [hf]; simp)]
      have e2 : (clsF f (m + 1)).1 = (clsF f m).1 ++ [(clsF f m).1.getD t 0] := by simp only [clsF, hf]
      rw [e, e2, getD_snoc, hl]
      by_cases c : s < m
      · rw [if_pos c]
        exact cls_rep hr hy ht m (by omega) s c
      · have : s = m := by omega
        subst this
        rw [if_neg (by omega), if_pos rfl]
        have ih := cls_rep hr hy ht s (by omega) t htm
        have hc := hin.2 _ (getD_mem (l := (clsF f s).1) (i := t) (d := 0) (by omega))
        have hri := repsL_in f s _ (getD_mem (l := repsL f s) (i := ((clsF f s).1.getD t 0).toNat) (d := 0) (by omega))
        exact ht _ t s (by omega) (by omega) (by omega) ih (hy s t (by omega) (by omega) htf)

/-- Two firsts are apart. -/
theorem reps_apart : ∀ m : Nat, (repsL f m).Pairwise fun a b => f b.toNat a.toNat = true
  | 0 => List.Pairwise.nil
  | m + 1 => by
    simp only [repsL]
    split
    · rename_i hf
      rw [List.pairwise_append]
      refine ⟨reps_apart m, by simp, fun a ha b hb => ?_⟩
      rw [List.mem_singleton] at hb
      subst hb
      have h1 := repsL_in f m a ha
      have := findP_none.1 hf a.toNat (List.mem_range.2 (by omega))
      rw [Int.toNat_natCast]
      simpa using this
    · exact reps_apart m

theorem cls_apart (hr : ∀ s, s < n → f s s = false) (hy : ∀ a b, a < n → b < n → f a b = false → f b a = false) (ht : ∀ a b c, a < n → b < n → c < n → f a b = false → f b c = false → f a c = false) {s t : Nat} (hs : s < n) (htn : t < n) :
    ((clsF f n).1.getD s 0 != (clsF f n).1.getD t 0) = f s t := by
  have hl := clsF_len f n
  have hin := clsF_in f n
  have hrl := repsL_len f n
  have r1 := cls_rep hr hy ht n (Nat.le_refl n) s hs
  have r2 := cls_rep hr hy ht n (Nat.le_refl n) t htn
  have c1 := hin.2 _ (getD_mem (l := (clsF f n).1) (i := s) (d := 0) (by omega))
  have c2 := hin.2 _ (getD_mem (l := (clsF f n).1) (i := t) (d := 0) (by omega))
  generalize (clsF f n).1.getD s 0 = a at *
  generalize (clsF f n).1.getD t 0 = b at *
  have i1 := repsL_in f n _ (getD_mem (l := repsL f n) (i := a.toNat) (d := 0) (by omega))
  have i2 := repsL_in f n _ (getD_mem (l := repsL f n) (i := b.toNat) (d := 0) (by omega))
  by_cases c : a = b
  · subst c
    rw [show (a != a) = false by simp]
    exact (ht s _ t hs (by omega) htn (hy _ _ (by omega) hs r1) r2).symm
  · rw [show (a != b) = true by simpa using c]
    cases hf : f s t with
    | true => rfl
    | false =>
      have h1 := ht _ s t (by omega) hs htn r1 hf
      have h2 := ht _ t _ (by omega) htn (by omega) h1 (hy _ _ (by omega) htn r2)
      have hp := List.pairwise_iff_getElem.1 (reps_apart (f := f) n)
      exfalso
      rcases Int.lt_or_gt_of_ne c with g | g
      · have := hp a.toNat b.toNat (by omega) (by omega) (by omega)
        rw [← getD_of 0, ← getD_of 0] at this
        rw [hy _ _ (by omega) (by omega) h2] at this
        cases this
      · have := hp b.toNat a.toNat (by omega) (by omega) (by omega)
        rw [← getD_of 0, ← getD_of 0] at this
        rw [h2] at this
        cases this
end

/-- tutor/tutorref03.Same -/
def l_tutorref03_Same {R : Type} (a : Int) (a_1 : Int) (a_2 : Int) (a_3 : Int) (a_4 : List Int) (a_5 : List Int) (b : Int) (b_1 : Int) (b_2 : Int) (b_3 : Int) (b_4 : List Int) (b_5 : List Int) (K0 : Bool → Option R) : Option R :=
  bi (a == b)
   (bi (a_1 == b_1)
    (bi (a_2 == b_2)
     (bi (a_3 == b_3)
      (l_tutorref01_Same a_4 b_4
       (fun r1 =>
        bi r1
         (l_tutorref01_Same a_5 b_5
          (fun r2 =>
           K0 r2))
         (K0 false)))
      (K0 false))
     (K0 false))
    (K0 false))
   (K0 false)

theorem sameM_eq {R : Type} {k K O N : Int} {nx ou : List Int} (h1 : short nx) (h2 : short ou) (K0 : Bool → Option R) :
    l_tutorref03_Same k K O N nx ou k K O N nx ou K0 = K0 true := by
  unfold l_tutorref03_Same
  rw [br_eq rfl, br_eq rfl, br_eq rfl, br_eq rfl, same_eq h1]
  try dsimp only
  rw [br_pos rfl, same_eq h2]
  simp

/-- tutor/tutorlaw07.DifferEqual -/
def l_tutorlaw07_DifferEqual {R : Type} (a : Int) (a_1 : Int) (a_2 : Int) (a_3 : Int) (a_4 : List Int) (a_5 : List Int) (b : Int) (b_1 : Int) (b_2 : Int) (b_3 : Int) (b_4 : List Int) (b_5 : List Int) (s : Int) (t : Int) (K0 : Bool → Option R) : Option R :=
  l_tutorref03_Big a a_1 a_2 a_3 a_4 a_5 20
   (fun r1 =>
    bi r1
     (l_tutorlaw07_live
      (fun r2 =>
       K0 r2))
     (l_tutorref03_Big b b_1 b_2 b_3 b_4 b_5 20
      (fun r3 =>
       bi r3
        (l_tutorlaw07_live
         (fun r4 =>
          K0 r4))
        (l_differ_Separate a a_1 a_2 a_3 a_4 a_5 b b_1 b_2 b_3 b_4 b_5
         (fun r5 r6 r7 =>
          l_differ_Separate b b_1 b_2 b_3 b_4 b_5 a a_1 a_2 a_3 a_4 a_5
           (fun r8 r9 r10 =>
            l_tutorlaw07_num r6
             (fun r11 =>
              bi (r11 == 0)
               (l_tutorref05_Minimise a a_1 a_2 a_3 a_4 a_5
                (fun r12 r13 r14 r15 r16 r17 r18 =>
                 l_tutorref05_Minimise b b_1 b_2 b_3 b_4 b_5
                  (fun r19 r20 r21 r22 r23 r24 r25 =>
                   l_tutorlaw07_num r9
                    (fun r26 =>
                     bi (r26 != 0)
                      (K0 false)
                      (bi (!(r5 == r8))
                       (K0 false)
                       (l_tutorref01_Same r7 r10
                        (fun r27 =>
                         bi (!r27)
                          (K0 false)
                          (l_tutorref03_Same r12 r13 r14 r15 r17 r18 r19 r20 r21 r22 r24 r25
                           (fun r28 =>
                            bi (r5 == r28)
                             (K0 false)
                             (l_differ_Apart a a_1 a_2 a_3 a_4 a_5 s t
                              (fun r29 r30 r31 =>
                               l_tutorref05_Classes a a_1 a_2 a_3 a_4 a_5
                                (fun r32 r33 r34 =>
                                 l_tutorlaw07_num r30
                                  (fun r35 =>
                                   bi (r35 != 0)
                                    (bi ((r31.length : Int) == 0)
                                     (bi (!r29)
                                      (l_tutorlaw07_live
                                       (fun r36 =>
                                        K0 r36))
                                      (K0 false))
                                     (K0 false))
                                    (bi (r33 != 0)
                                     (bi ((r31.length : Int) == 0)
                                      (bi (!r29)
                                       (l_tutorlaw07_live
                                        (fun r37 =>
                                         K0 r37))
                                       (K0 false))
                                      (K0 false))
                                     (bi (a == 2)
                                      (bi (decide (0 ≤ s ∧ s < ((r34.length : Nat) : Int)))
                                       (bi (decide (0 ≤ t ∧ t < ((r34.length : Nat) : Int)))
                                        (bi (r29 == ((r34.getD s.toNat 0) != (r34.getD t.toNat 0)))
                                         (bi (!r29)
                                          (l_tutorlaw07_live
                                           (fun r38 =>
                                            K0 r38))
                                          (bi (decide ((r31.length : Int) < (IntKind.i64.wrap (a_3 + 1))))
                                           (l_tutorlaw07_live
                                            (fun r39 =>
                                             K0 r39))
                                           (K0 false)))
                                         (K0 false))
                                        none)
                                       none)
                                      (bi (decide (0 ≤ s ∧ s < ((r34.length : Nat) : Int)))
                                       (bi (decide (0 ≤ t ∧ t < ((r34.length : Nat) : Int)))
                                        (bi (r29 == ((r34.getD s.toNat 0) != (r34.getD t.toNat 0)))
                                         (bi (!r29)
                                          (l_tutorlaw07_live
                                           (fun r40 =>
                                            K0 r40))
                                          (bi (decide ((r31.length : Int) < a_3))
                                           (l_tutorlaw07_live
                                            (fun r41 =>
                                             K0 r41))
                                           (K0 false)))
                                         (K0 false))
                                        none)
                                       none))))))))))))))))
               (l_differ_Apart a a_1 a_2 a_3 a_4 a_5 s t
                (fun r42 r43 r44 =>
                 l_tutorref05_Classes a a_1 a_2 a_3 a_4 a_5
                  (fun r45 r46 r47 =>
                   l_tutorlaw07_num r43
                    (fun r48 =>
                     bi (r48 != 0)
                      (bi ((r44.length : Int) == 0)
                       (bi (!r42)
                        (l_tutorlaw07_live
                         (fun r49 =>
                          K0 r49))
                        (K0 false))
                       (K0 false))
                      (bi (r46 != 0)
                       (bi ((r44.length : Int) == 0)
                        (bi (!r42)
                         (l_tutorlaw07_live
                          (fun r50 =>
                           K0 r50))
                         (K0 false))
                        (K0 false))
                       (bi (a == 2)
                        (bi (decide (0 ≤ s ∧ s < ((r47.length : Nat) : Int)))
                         (bi (decide (0 ≤ t ∧ t < ((r47.length : Nat) : Int)))
                          (bi (r42 == ((r47.getD s.toNat 0) != (r47.getD t.toNat 0)))
                           (bi (!r42)
                            (l_tutorlaw07_live
                             (fun r51 =>
                              K0 r51))
                            (bi (decide ((r44.length : Int) < (IntKind.i64.wrap (a_3 + 1))))
                             (l_tutorlaw07_live
                              (fun r52 =>
                               K0 r52))
                             (K0 false)))
                           (K0 false))
                          none)
                         none)
                        (bi (decide (0 ≤ s ∧ s < ((r47.length : Nat) : Int)))
                         (bi (decide (0 ≤ t ∧ t < ((r47.length : Nat) : Int)))
                          (bi (r42 == ((r47.getD s.toNat 0) != (r47.getD t.toNat 0)))
                           (bi (!r42)
                            (l_tutorlaw07_live
                             (fun r53 =>
                              K0 r53))
                            (bi (decide ((r44.length : Int) < a_3))
                             (l_tutorlaw07_live
                              (fun r54 =>
                               K0 r54))
                             (K0 false)))
                           (K0 false))
                          none)
                         none))))))))))))))

section
variable {k K O N M : Int} {nx ou nx' ou' : List Int}

theorem apartF_false (F : Fine k K O N nx ou) {s t : Nat} (hs : s < N.toNat) (ht : t < N.toNat) : apartF k K N nx ou s t = false ↔ ∀ v, validW K v → (endS k K nx ou (s : Int) v).2 = (endS k K nx ou (t : Int) v).2 := by
  have h := apartF_iff F hs ht
  constructor
  · intro hf v hv
    refine (end_tel (D := selfD k K N nx ou) F.fk ((s : Int), (t : Int)) v).2 ?_
    cases hb : (selfD k K N nx ou).tel ((s : Int), (t : Int)) v with
    | false => rfl
    | true =>
      rw [h.2 ⟨v, hv, hb⟩] at hf
      cases hf
  · intro hv
    cases hb : apartF k K N nx ou s t with
    | false => rfl
    | true =>
      obtain ⟨v, hvv, ht⟩ := h.1 hb
      have := (end_tel (D := selfD k K N nx ou) F.fk ((s : Int), (t : Int)) v).1 (hv v hvv)
      rw [this] at ht
      cases ht

theorem reps_zero (f : Nat → Nat → Bool) : ∀ m : Nat, 0 < (repsL f (m + 1)).length ∧ (repsL f (m + 1)).getD 0 0 = 0
  | 0 => ⟨Nat.zero_lt_one, rfl⟩
  | m + 1 => by
    obtain ⟨h1, h2⟩ := reps_zero f m
    have e : repsL f (m + 1 + 1) = if findP (fun t => !f (m + 1) t) (List.range (m + 1)) = none then repsL f (m + 1) ++ [((m + 1 : Nat) : Int)] else repsL f (m + 1) := rfl
    rw [e]
    split
    · refine ⟨by rw [List.length_append]; omega, ?_⟩
      rw [getD_snoc, if_pos h1, h2]
    · exact ⟨h1, h2⟩

theorem min_equiv (F : Fine k K O N nx ou) : (∀ s, s < N.toNat → apartF k K N nx ou s s = false) ∧ (∀ a b, a < N.toNat → b < N.toNat → apartF k K N nx ou a b = false → apartF k K N nx ou b a = false) ∧
    (∀ a b c, a < N.toNat → b < N.toNat → c < N.toNat → apartF k K N nx ou a b = false → apartF k K N nx ou b c = false → apartF k K N nx ou a c = false) :=
  ⟨fun s hs => (apartF_false F hs hs).2 fun _ _ => rfl, fun a b ha hb h => (apartF_false F hb ha).2 fun v hv => ((apartF_false F ha hb).1 h v hv).symm,
    fun a b c ha hb hc h1 h2 => (apartF_false F ha hc).2 fun v hv => ((apartF_false F ha hb).1 h1 v hv).trans ((apartF_false F hb hc).1 h2 v hv)⟩

theorem min_picks (F : Fine k K O N nx ou) : Picks k K N nx ou (repsL (apartF k K N nx ou) N.toNat) (clsF (apartF k K N nx ou) N.toNat).1 := by
  have hN := F.fN
  obtain ⟨e1, e2, e3⟩ := min_equiv F
  have hrl := repsL_len (apartF k K N nx ou) N.toNat
  have hcl := clsF_in (apartF k K N nx ou) N.toNat
  have hll := clsF_len (apartF k K N nx ou) N.toNat
  have hri := repsL_in (apartF k K N nx ou) N.toNat
  have hz := reps_zero (apartF k K N nx ou) (N.toNat - 1)
  rw [show N.toNat - 1 + 1 = N.toNat by omega] at hz
  refine ⟨fun s hs => by have := hri s hs; omega, hz.1, by omega, fun i x hi hx => ?_⟩
  have hs := hri _ (getD_mem (d := 0) hi)
  generalize (repsL (apartF k K N nx ou) N.toNat).getD i 0 = s at *
  have hsn : ((s.toNat : Nat) : Int) = s := Int.toNat_of_nonneg hs.1
  obtain ⟨n1, n2⟩ := nxt_nat F (s := s.toNat) (x := x) (by omega) hx
  rw [hsn] at n1 n2
  generalize nx.getD (s * K + x).toNat 0 = t at *
  have hc := hcl.2 _ (getD_mem (l := (clsF (apartF k K N nx ou) N.toNat).1) (i := t.toNat) (d := 0) (by omega))
  refine ⟨hc.1, by omega, fun v hv => ?_⟩
  have hrep := cls_rep e1 e2 e3 N.toNat (Nat.le_refl _) t.toNat n2
  generalize (clsF (apartF k K N nx ou) N.toNat).1.getD t.toNat 0 = c at *
  have hrc := hri _ (getD_mem (l := repsL (apartF k K N nx ou) N.toNat) (i := c.toNat) (d := 0) (by omega))
  have h := (apartF_false F (by omega) n2).1 hrep v hv
  rw [n1, Int.toNat_of_nonneg hrc.1] at h
  exact h.symm

/-- No two states of it are alike. -/
def Least (k K N : Int) (nx ou : List Int) : Prop := ∀ s t : Int, (0 ≤ s ∧ s < N) → (0 ≤ t ∧ t < N) → (∀ v, validW K v → (endS k K nx ou s v).2 = (endS k K nx ou t v).2) → s = t

theorem min_least (F : Fine k K O N nx ou) : Least k K ((repsL (apartF k K N nx ou) N.toNat).length : Int) (pickN K nx (repsL (apartF k K N nx ou) N.toNat) (clsF (apartF k K N nx ou) N.toNat).1) (pickO k K ou (repsL (apartF k K N nx ou) N.toNat)) := by
  intro s t hs ht h
  have P := min_picks F
  have hri := repsL_in (apartF k K N nx ou) N.toNat
  have hsn : ((s.toNat : Nat) : Int) = s := Int.toNat_of_nonneg hs.1
  have htn : ((t.toNat : Nat) : Int) = t := Int.toNat_of_nonneg ht.1
  have r1 := hri _ (getD_mem (l := repsL (apartF k K N nx ou) N.toNat) (i := s.toNat) (d := 0) (by omega))
  have r2 := hri _ (getD_mem (l := repsL (apartF k K N nx ou) N.toNat) (i := t.toNat) (d := 0) (by omega))
  have hsame : ∀ v, validW K v → (endS k K nx ou ((repsL (apartF k K N nx ou) N.toNat).getD s.toNat 0) v).2 = (endS k K nx ou ((repsL (apartF k K N nx ou) N.toNat).getD t.toNat 0) v).2 := fun v hv => by
    rw [pick_same F P v s.toNat (by omega) hv, pick_same F P v t.toNat (by omega) hv, hsn, htn]
    exact h v hv
  have hp := List.pairwise_iff_getElem.1 (reps_apart (f := apartF k K N nx ou) N.toNat)
  have ap : ∀ i j : Nat, (hi : i < (repsL (apartF k K N nx ou) N.toNat).length) → (hj : j < (repsL (apartF k K N nx ou) N.toNat).length) → (∀ v, validW K v → (endS k K nx ou ((repsL (apartF k K N nx ou) N.toNat).getD i 0) v).2 = (endS k K nx ou ((repsL (apartF k K N nx ou) N.toNat).getD j 0) v).2) → ¬ i < j := by
    intro i j hi hj hv hij
    have h1 := hp i j hi hj hij
    rw [← getD_of 0 hi, ← getD_of 0 hj] at h1
    have q1 := hri _ (getD_mem (d := 0) hi)
    have q2 := hri _ (getD_mem (d := 0) hj)
    have := (apartF_false F (s := ((repsL (apartF k K N nx ou) N.toNat).getD j 0).toNat) (t := ((repsL (apartF k K N nx ou) N.toNat).getD i 0).toNat) (by omega) (by omega)).2 fun v hvv => by
      rw [Int.toNat_of_nonneg q1.1, Int.toNat_of_nonneg q2.1]
      exact (hv v hvv).symm
    rw [this] at h1
    cases h1
  have a1 := ap s.toNat t.toNat (by omega) (by omega) hsame
  have a2 := ap t.toNat s.toNat (by omega) (by omega) fun v hv => (hsame v hv).symm
  omega

theorem map_getD1 (L : List PW) {i : Nat} (hi : i < L.length) : (L.map (·.1.1)).getD i 0 = (L.getD i pw0).1.1 := by
  rw [getD_of 0 (by simpa using hi), getD_of pw0 hi, List.getElem_map]

theorem canon_picks (F : Fine k K O N nx ou) : Picks k K N nx ou ((reachL k K N nx ou).map (·.1.1)) (placeS ((reachL k K N nx ou).map (·.1.1)) (reachL k K N nx ou).length (List.replicate N.toNat 0)) := by
  have hN := F.fN
  have G := reach_grown F
  obtain ⟨h1, h2, h3, h4⟩ := reach_states F
  have hl : ((reachL k K N nx ou).map (·.1.1)).length = (reachL k K N nx ou).length := List.length_map _
  refine ⟨h1, by rw [hl]; exact G.inv.pos, by rw [hl]; exact h3, fun i x hi hx => ?_⟩
  rw [hl] at hi
  obtain ⟨m, hm, he⟩ := G.shut i x hi ⟨by omega, hx⟩
  rw [map_getD1 _ hi]
  have hst : nx.getD (((reachL k K N nx ou).getD i pw0).1.1 * K + x).toNat 0 = ((reachL k K N nx ou).map (·.1.1)).getD m 0 := by
    rw [map_getD1 _ hm, he]
    rfl
  rw [hst]
  have hg := placeS_get h1 h2 (acc := List.replicate N.toNat 0) (by rw [List.length_replicate]; omega) (reachL k K N nx ou).length m (by rw [hl]; exact Nat.le_refl _) hm
  rw [hg, Int.toNat_natCast]
  exact ⟨by omega, by rw [hl]; omega, fun v _ => rfl⟩

theorem reach_zero (F : Fine k K O N nx ou) : ((reachL k K N nx ou).map (·.1.1)).getD 0 0 = 0 := by
  have G := reach_grown F
  rw [map_getD1 _ G.inv.pos, G.inv.head]

theorem canon_form (F : Fine k K O N nx ou) : ∃ n p q, canonS k K O N nx ou = (k, K, O, n, 0, p, q) ∧ Fine k K O n p q ∧ ∀ v, validW K v → (endS k K nx ou 0 v).2 = (endS k K p q 0 v).2 := by
  have P := canon_picks F
  have hl : ((reachL k K N nx ou).map (·.1.1)).length = (reachL k K N nx ou).length := List.length_map _
  refine ⟨_, _, _, by unfold canonS; rw [if_neg (by simpa using checkR_fine.2 F)], ?_, fun v hv => ?_⟩
  · have := pick_fine F P
    rw [hl] at this
    exact this
  · have := pick_same F P v 0 P.pos hv
    rw [reach_zero F] at this
    exact this

theorem minim_form (F : Fine k K O N nx ou) : ∃ n p q, minimS k K O N nx ou = (k, K, O, n, 0, p, q) ∧ Fine k K O n p q ∧ ∀ v, validW K v → (endS k K nx ou 0 v).2 = (endS k K p q 0 v).2 := by
  have P := min_picks F
  have hN := F.fN
  have hz := reps_zero (apartF k K N nx ou) (N.toNat - 1)
  rw [show N.toNat - 1 + 1 = N.toNat by omega] at hz
  obtain ⟨n, p, q, e, Fc, hs⟩ := canon_form (pick_fine F P)
  refine ⟨n, p, q, by unfold minimS; rw [if_neg (by simpa using checkR_fine.2 F)]; exact e, Fc, fun v hv => ?_⟩
  have := pick_same F P v 0 P.pos hv
  rw [hz.2] at this
  exact this.trans (hs v hv)

/-- Quiet pairs say the same. -/
theorem quiet_says {D : Duo} (hk : D.k = 1 ∨ D.k = 2) {p : Int × Int} (Q : Quiet D p) : ∀ v, validW D.K v → (endS D.k D.K D.nx D.ou p.1 v).2 = (endS D.k D.K D.nx' D.ou' p.2 v).2 := fun v hv => (end_tel hk p v).2 (Q v hv)

theorem lock_one {D E : Duo} (FD : D.Fine) (hk : D.k = 1 ∨ D.k = 2) (hK : D.K = E.K) (g : PW → PW) (hg : ∀ e x, g (D.nxt e.1 x, e.2 ++ [x]) = (E.nxt (g e).1 x, (g e).2 ++ [x]))
    (hinj : ∀ e e' : PW, D.inn e.1 → D.inn e'.1 → Quiet D e.1 → Quiet D e'.1 → (g e).1 = (g e').1 → e.1 = e'.1) (hg1 : ∀ e e' : PW, e.1 = e'.1 → (g e).1 = (g e').1) (hs : D.inn (0, 0)) (Q : Quiet D (0, 0)) {L' : List PW} {n : Nat} (hE : grow E n 0 0 [g ((0, 0), [])] = some L') : L' = (growS D (0, 0)).map g := by
  have h := growS_run FD hs Q
  have := grow_lock hK g hg (fun L => ∀ e ∈ L, D.inn e.1 ∧ Quiet D e.1) (fun L i x hL hi hx => by
    have he := hL _ (getD_mem (l := L) (i := i) (d := pw0) hi)
    have hq := nxt_inn FD he.1 (x := (x : Int)) ⟨by omega, hx⟩
    have Qq := (he.2.sy (x := (x : Int)) ⟨by omega, hx⟩).2
    have hgn : (g (D.nxt (L.getD i pw0).1 x, (L.getD i pw0).2 ++ [(x : Int)])).1 = E.nxt (g (L.getD i pw0)).1 x := by rw [hg]
    refine ⟨?_, fun _ e hm => ?_⟩
    · rw [Bool.eq_iff_iff, known_iff, known_iff, List.mem_map, List.mem_map]
      constructor
      · rintro ⟨e, hm, h1⟩
        obtain ⟨e0, hm0, rfl⟩ := List.mem_map.1 hm
        have := hinj e0 (D.nxt (L.getD i pw0).1 x, (L.getD i pw0).2 ++ [(x : Int)]) (hL e0 hm0).1 hq (hL e0 hm0).2 Qq (h1.trans hgn.symm)
        exact ⟨e0, hm0, this⟩
      · rintro ⟨e0, hm0, h1⟩
        refine ⟨g e0, List.mem_map_of_mem hm0, ?_⟩
        rw [← hgn]
        exact hg1 e0 (D.nxt (L.getD i pw0).1 x, (L.getD i pw0).2 ++ [(x : Int)]) h1
    · rcases List.mem_append.1 hm with hm | hm
      · exact hL e hm
      · rw [List.mem_singleton] at hm
        subst hm
        exact ⟨hq, Qq⟩) _ 0 0 _ _ (fun e hm => by
    rw [List.mem_singleton] at hm
    subst hm
    exact ⟨hs, Q⟩) (by simp) h
  exact grow_one hE this

theorem canon_lock (A : Fine k K O N nx ou) (B : Fine k K O M nx' ou') (Q : Quiet ⟨k, K, N, M, nx, ou, nx', ou'⟩ (0, 0)) (la : Least k K N nx ou) (lb : Least k K M nx' ou') : canonS k K O N nx ou = canonS k K O M nx' ou' := by
  have hN := A.fN
  have hM := B.fN
  have FD : (⟨k, K, N, M, nx, ou, nx', ou'⟩ : Duo).Fine := ⟨⟨_, A⟩, ⟨_, B⟩⟩
  have hin : (⟨k, K, N, M, nx, ou, nx', ou'⟩ : Duo).inn (0, 0) := ⟨by dsimp only; omega, by dsimp only; omega⟩
  have G := growS_spec FD hin Q
  have hA : (selfD k K N nx ou).inn (0, 0) := ⟨⟨Int.le_refl 0, by show (0 : Int) < N; omega⟩, ⟨Int.le_refl 0, by show (0 : Int) < N; omega⟩⟩
  have hB : (selfD k K M nx' ou').inn (0, 0) := ⟨⟨Int.le_refl 0, by show (0 : Int) < M; omega⟩, ⟨Int.le_refl 0, by show (0 : Int) < M; omega⟩⟩
  have r1 : reachL k K N nx ou = (growS ⟨k, K, N, M, nx, ou, nx', ou'⟩ (0, 0)).map fun e => ((e.1.1, e.1.1), e.2) :=
    lock_one (E := selfD k K N nx ou) FD A.fk rfl (fun e => ((e.1.1, e.1.1), e.2)) (fun e x => rfl) (fun e e' i1 i2 q1 q2 h => by
      have h1 : e.1.1 = e'.1.1 := congrArg (·.1) h
      refine Prod.ext h1 (lb _ _ i1.2 i2.2 fun v hv => ?_)
      rw [← quiet_says A.fk q1 v hv, ← quiet_says A.fk q2 v hv, h1]) (fun e e' h => by rw [h]) hin Q (growS_run (selfD_fine A) hA (self_quiet A 0))
  have r2 : reachL k K M nx' ou' = (growS ⟨k, K, N, M, nx, ou, nx', ou'⟩ (0, 0)).map fun e => ((e.1.2, e.1.2), e.2) :=
    lock_one (E := selfD k K M nx' ou') FD A.fk rfl (fun e => ((e.1.2, e.1.2), e.2)) (fun e x => rfl) (fun e e' i1 i2 q1 q2 h => by
      have h1 : e.1.2 = e'.1.2 := congrArg (·.1) h
      refine Prod.ext (la _ _ i1.1 i2.1 fun v hv => ?_) h1
      rw [quiet_says A.fk q1 v hv, quiet_says A.fk q2 v hv, h1]) (fun e e' h => by rw [h]) hin Q (growS_run (selfD_fine B) hB (self_quiet B 0))
  obtain ⟨a1, a2, a3, _⟩ := reach_states A
  obtain ⟨b1, b2, b3, _⟩ := reach_states B
  have hQ : ∀ e ∈ growS ⟨k, K, N, M, nx, ou, nx', ou'⟩ (0, 0), Quiet ⟨k, K, N, M, nx, ou, nx', ou'⟩ e.1 := fun e he => by
    rw [← G.go e he]
    exact Q.at (G.val e he)
  unfold canonS
  rw [if_neg (by simpa using checkR_fine.2 A), if_neg (by simpa using checkR_fine.2 B)]
  rw [r1] at a1 a2 a3 ⊢
  rw [r2] at b1 b2 b3 ⊢
  have sh := G.shut
  generalize growS ⟨k, K, N, M, nx, ou, nx', ou'⟩ (0, 0) = L at *
  have ea : (L.map fun e => ((e.1.1, e.1.1), e.2)).map (fun e : PW => e.1.1) = L.map fun e => e.1.1 := by rw [List.map_map]; rfl
  have eb : (L.map fun e => ((e.1.2, e.1.2), e.2)).map (fun e : PW => e.1.1) = L.map fun e => e.1.2 := by rw [List.map_map]; rfl
  rw [ea] at a1 a2 ⊢
  rw [eb] at b1 b2 ⊢
  rw [List.length_map] at a3 b3 ⊢
  rw [List.length_map]
  have la1 : (L.map fun e => e.1.1).length = L.length := List.length_map _
  have lb1 : (L.map fun e => e.1.2).length = L.length := List.length_map _
  have ga : ∀ i, i < L.length → (L.map fun e => e.1.1).getD i 0 = (L.getD i pw0).1.1 := fun i hi => map_getD1 L hi
  have gb : ∀ i, i < L.length → (L.map fun e => e.1.2).getD i 0 = (L.getD i pw0).1.2 := fun i hi => by
    rw [getD_of 0 (by simpa using hi), getD_of pw0 hi, List.getElem_map]
  have hK := A.fK
  have pN : pickN K nx (L.map fun e => e.1.1) (placeS (L.map fun e => e.1.1) L.length (List.replicate N.toNat 0)) = pickN K nx' (L.map fun e => e.1.2) (placeS (L.map fun e => e.1.2) L.length (List.replicate M.toNat 0)) := by
    unfold pickN
    refine flat_ext 0 0 (by rw [la1, lb1]) fun i hi => ?_
    rw [la1] at hi
    refine List.map_congr_left fun x hx => ?_
    have hx := List.mem_range.1 hx
    obtain ⟨m, hm, he⟩ := sh i (x : Int) hi ⟨by omega, by show (x : Int) < K; omega⟩
    have h1 : nx.getD ((L.getD i pw0).1.1 * K + x).toNat 0 = (L.map fun e => e.1.1).getD m 0 := by rw [ga m hm, he]; rfl
    have h2 : nx'.getD ((L.getD i pw0).1.2 * K + x).toNat 0 = (L.map fun e => e.1.2).getD m 0 := by rw [gb m hm, he]; rfl
    rw [ga i hi, gb i hi, h1, h2, placeS_get a1 a2 (by rw [List.length_replicate]; omega) L.length m (by rw [la1]; exact Nat.le_refl _) hm, placeS_get b1 b2 (by rw [List.length_replicate]; omega) L.length m (by rw [lb1]; exact Nat.le_refl _) hm]
  have pO : pickO k K ou (L.map fun e => e.1.1) = pickO k K ou' (L.map fun e => e.1.2) := by
    unfold pickO
    by_cases h : k = 1
    · rw [if_pos h, if_pos h, List.map_map, List.map_map]
      refine List.map_congr_left fun e he => ?_
      have := (hQ e he).st
      unfold Duo.st at this
      rw [h] at this
      simpa using this
    · rw [if_neg h, if_neg h]
      refine flat_ext 0 0 (by rw [la1, lb1]) fun i hi => ?_
      rw [la1] at hi
      refine List.map_congr_left fun x hx => ?_
      have hx := List.mem_range.1 hx
      rw [ga i hi, gb i hi]
      have := ((hQ _ (getD_mem (d := pw0) hi)).sy (x := (x : Int)) ⟨by omega, by show (x : Int) < K; omega⟩).1
      unfold Duo.sy at this
      rw [A.fk.resolve_left h] at this
      simpa using this
  rw [pN, pO]

/-- Machines that say the same have one least form. -/
theorem minim_iff (A : Fine k K O N nx ou) (B : Fine k K O M nx' ou') : minimS k K O N nx ou = minimS k K O M nx' ou' ↔ ∀ v, validW K v → (endS k K nx ou 0 v).2 = (endS k K nx' ou' 0 v).2 := by
  constructor
  · intro h v hv
    obtain ⟨n, p, q, e, _, h1⟩ := minim_form A
    obtain ⟨n', p', q', e', _, h2⟩ := minim_form B
    rw [e, e'] at h
    simp only [Prod.mk.injEq] at h
    obtain ⟨_, _, _, _, _, rfl, rfl⟩ := h
    rw [h1 v hv, h2 v hv]
  · intro h
    have PA := min_picks A
    have PB := min_picks B
    have hN := A.fN
    have hM := B.fN
    have za := reps_zero (apartF k K N nx ou) (N.toNat - 1)
    rw [show N.toNat - 1 + 1 = N.toNat by omega] at za
    have zb := reps_zero (apartF k K M nx' ou') (M.toNat - 1)
    rw [show M.toNat - 1 + 1 = M.toNat by omega] at zb
    unfold minimS
    rw [if_neg (by simpa using checkR_fine.2 A), if_neg (by simpa using checkR_fine.2 B)]
    refine canon_lock (pick_fine A PA) (pick_fine B PB) (fun v hv => ?_) (min_least A) (min_least B)
    refine (end_tel (D := ⟨k, K, _, _, _, _, _, _⟩) A.fk (0, 0) v).1 ?_
    have s1 := pick_same A PA v 0 PA.pos hv
    have s2 := pick_same B PB v 0 PB.pos hv
    rw [za.2] at s1
    rw [zb.2] at s2
    exact s1.symm.trans ((h v hv).trans s2)
end

theorem same_gen {R : Type} {a a1 a2 a3 : Int} {a4 a5 : List Int} {b b1 b2 b3 : Int} {b4 b5 : List Int} (h1 : short a4) (h2 : short a5) (K0 : Bool → Option R) :
    l_tutorref03_Same a a1 a2 a3 a4 a5 b b1 b2 b3 b4 b5 K0 = K0 (decide (a = b ∧ a1 = b1 ∧ a2 = b2 ∧ a3 = b3 ∧ a4 = b4 ∧ a5 = b5)) := by
  unfold l_tutorref03_Same
  simp only [same_eq h1, same_eq h2]
  by_cases c0 : a = b
  · by_cases c1 : a1 = b1
    · by_cases c2 : a2 = b2
      · by_cases c3 : a3 = b3
        · by_cases c4 : a4 = b4
          · rw [br_eq c0, br_eq c1, br_eq c2, br_eq c3, decide_eq_true c4, br_tt]
            simp [c0, c1, c2, c3, c4]
          · rw [br_eq c0, br_eq c1, br_eq c2, br_eq c3, decide_eq_false c4, br_ff]
            simp [c4]
        · rw [br_eq c0, br_eq c1, br_eq c2, br_eq' c3]
          simp [c3]
      · rw [br_eq c0, br_eq c1, br_eq' c2]
        simp [c2]
    · rw [br_eq c0, br_eq' c1]
      simp [c1]
  · rw [br_eq' c0]
    simp [c0]

/-! ### Both ways round -/

def swapD (D : Duo) : Duo := ⟨D.k, D.K, D.M, D.N, D.nx', D.ou', D.nx, D.ou⟩
theorem swap_tel {D : Duo} (h : D.k = 1 ∨ D.k = 2) (v : List Int) : (swapD D).tel (0, 0) v = D.tel (0, 0) v := by
  have h1 := end_tel h (0, 0) v
  have h2 := end_tel (D := swapD D) h (0, 0) v
  have h3 : (endS D.k D.K D.nx' D.ou' 0 v).2 = (endS D.k D.K D.nx D.ou 0 v).2 ↔ (swapD D).tel (0, 0) v = false := h2
  have h4 : (endS D.k D.K D.nx D.ou 0 v).2 = (endS D.k D.K D.nx' D.ou' 0 v).2 ↔ D.tel (0, 0) v = false := h1
  cases hb : D.tel (0, 0) v with
  | false => exact h3.1 (h4.2 hb).symm
  | true =>
    cases hc : (swapD D).tel (0, 0) v with
    | true => rfl
    | false =>
      rw [h4.1 (h3.2 hc).symm] at hb
      cases hb
theorem swap_search {D : Duo} (F : D.Fine) (hs : D.inn (0, 0)) : searchS (swapD D) (0, 0) = searchS D (0, 0) := by
  obtain ⟨O, A⟩ := F.a
  have hK := A.fK
  have F' : (swapD D).Fine := ⟨F.b, F.a⟩
  have f1 := search_found F hs
  have f2 := search_found (D := swapD D) F' (s := (0, 0)) ⟨hs.2, hs.1⟩
  cases h1 : (searchS D (0, 0)).1 with
  | true =>
    obtain ⟨a1, a2, a3⟩ := f1.yes h1
    cases h2 : (searchS (swapD D) (0, 0)).1 with
    | true =>
      obtain ⟨b1, b2, b3⟩ := f2.yes h2
      have c1 := a3 _ b1 (by rw [← swap_tel A.fk]; exact b2)
      have c2 := b3 _ a1 (by rw [swap_tel A.fk]; exact a2)
      refine Prod.ext (h2.trans h1.symm) (rank_inj (k := D.K) (by omega) b1 a1 ?_)
      have c2' : rankS D.K (searchS (swapD D) (0, 0)).2 ≤ rankS D.K (searchS D (0, 0)).2 := c2
      omega
    | false =>
      have := (f2.no h2).2 _ a1
      rw [swap_tel A.fk, a2] at this
      cases this
  | false =>
    cases h2 : (searchS (swapD D) (0, 0)).1 with
    | true =>
      obtain ⟨b1, b2, b3⟩ := f2.yes h2
      have := (f1.no h1).2 _ b1
      rw [← swap_tel A.fk, b2] at this
      cases this
    | false => exact Prod.ext (h2.trans h1.symm) ((f2.no h2).1.trans (f1.no h1).1.symm)

theorem sepS_fit2 {k K O N : Int} {nx ou : List Int} {k' K' O' N' : Int} {nx' ou' : List Int} (h1 : okL nx) (h2 : okL ou) (h3 : okL nx') (h4 : okL ou') :
    ((sepS k K O N nx ou k' K' O' N' nx' ou').2.1 ≠ 0) ∨
    ((Fine k K O N nx ou ∧ Fine k' K' O' N' nx' ou' ∧ k = k' ∧ K = K' ∧ O = O') ∧ sepS k K O N nx ou k' K' O' N' nx' ou' = ((searchS ⟨k, K, N, N', nx, ou, nx', ou'⟩ (0, 0)).1, 0, (searchS ⟨k, K, N, N', nx, ou, nx', ou'⟩ (0, 0)).2)) := by
  by_cases hf : fitS k K O N nx ou k' K' O' N' nx' ou' = 0
  · refine .inr ⟨(fitS_zero h1 h2 h3 h4).1 hf, ?_⟩
    unfold sepS
    rw [if_neg (by simpa using hf)]
  · refine .inl ?_
    unfold sepS
    rw [if_pos hf]
    exact hf

/-- The states of one machine. -/
theorem states_part {k K O N : Int} {nx ou : List Int} {s t : Int} :
    ((apartS k K O N nx ou s t).2.1 ≠ 0 ∧ (apartS k K O N nx ou s t).1 = false ∧ (apartS k K O N nx ou s t).2.2 = []) ∨
    ((apartS k K O N nx ou s t).2.1 = 0 ∧ (classesS k K O N nx ou).2.1 = 0 ∧ (0 ≤ s ∧ s < ((classesS k K O N nx ou).2.2.length : Int)) ∧ (0 ≤ t ∧ t < ((classesS k K O N nx ou).2.2.length : Int)) ∧ (1 ≤ N ∧ N ≤ 1024) ∧
      (apartS k K O N nx ou s t).1 = ((classesS k K O N nx ou).2.2.getD s.toNat 0 != (classesS k K O N nx ou).2.2.getD t.toNat 0) ∧ ((apartS k K O N nx ou s t).1 = true → ((apartS k K O N nx ou s t).2.2.length : Int) < N)) := by
  unfold apartS classesS
  by_cases hc : (checkR k K O N nx ou).2 = 0
  · have n1 : ¬ (checkR k K O N nx ou).2 ≠ 0 := by simpa using hc
    simp only [if_neg n1]
    by_cases c : (s < 0 ∨ s ≥ N) ∨ (t < 0 ∨ t ≥ N)
    · simp only [if_pos c]
      exact .inl (by simp)
    · simp only [if_neg c]
      right
      have A := checkR_fine.1 hc
      have hN := A.fN
      have hs : 0 ≤ s ∧ s < N := by omega
      have ht : 0 ≤ t ∧ t < N := by omega
      have hsn : ((s.toNat : Nat) : Int) = s := Int.toNat_of_nonneg hs.1
      have htn : ((t.toNat : Nat) : Int) = t := Int.toNat_of_nonneg ht.1
      have FD : (⟨k, K, N, N, nx, ou, nx, ou⟩ : Duo).Fine := ⟨⟨_, A⟩, ⟨_, A⟩⟩
      have hin : (⟨k, K, N, N, nx, ou, nx, ou⟩ : Duo).inn (s, t) := ⟨hs, ht⟩
      have hF := search_found FD hin
      have hl := clsF_len (apartF k K N nx ou) N.toNat
      obtain ⟨e1, e2, e3⟩ := min_equiv A
      have hcl := cls_apart e1 e2 e3 (s := s.toNat) (t := t.toNat) (by omega) (by omega)
      have hap := apartF_iff A (s := s.toNat) (t := t.toNat) (by omega) (by omega)
      unfold ApartW at hap
      rw [hsn, htn] at hap
      try dsimp only
      refine ⟨by trivial, by trivial, by rw [hl]; omega, by rw [hl]; omega, hN, ?_, fun h => ?_⟩
      · rw [hcl]
        cases hr : (searchS ⟨k, K, N, N, nx, ou, nx, ou⟩ (s, t)).1 with
        | true =>
          obtain ⟨hv, htl, _⟩ := hF.yes hr
          exact (hap.2 ⟨_, hv, htl⟩).symm
        | false =>
          cases hb : apartF k K N nx ou s.toNat t.toNat with
          | false => rfl
          | true =>
            obtain ⟨v, hv, htl⟩ := hap.1 hb
            have := (hF.no hr).2 v hv
            have htl' : Duo.tel ⟨k, K, N, N, nx, ou, nx, ou⟩ (s, t) v = true := htl
            rw [this] at htl'
            cases htl'
      · obtain ⟨hv, htl, hm⟩ := hF.yes h
        exact first_shorter FD rfl rfl rfl hin hv htl hm
  · rw [if_pos (by simpa using hc)]
    exact .inl ⟨hc, rfl, rfl⟩

theorem law_tutorlaw07_DifferEqual {R : Type} (k K O N : Int) (nx ou : List Int) (k' K' O' N' : Int) (nx' ou' : List Int) (s t : Int) (K0 : Bool → Option R) (hk : inI k) (hK : inI K) (hO : inI O) (hN : inI N) (hn : okW nx) (ho : okW ou)
    (hk' : inI k') (hK' : inI K') (hO' : inI O') (hN' : inI N') (hn' : okW nx') (ho' : okW ou') (hs : inI s) (ht : inI t) :
    l_tutorlaw07_DifferEqual k K O N nx ou k' K' O' N' nx' ou' s t K0 = K0 true := by
  unfold l_tutorlaw07_DifferEqual
  rcases big_cases k K O N nx ou 20 _ with h | ⟨b1, h1, h2, h⟩
  · rw [h, br_tt, live07]
  rw [h, br_ff]
  rcases big_cases k' K' O' N' nx' ou' 20 _ with h | ⟨b2, h3, h4, h⟩
  · rw [h, br_tt, live07]
  rw [h, br_ff]
  have o1 : okL nx := hn.okL (by unfold short; omega)
  have o2 : okL ou := ho.okL (by unfold short; omega)
  have o3 : okL nx' := hn'.okL (by unfold short; omega)
  have o4 : okL ou' := ho'.okL (by unfold short; omega)
  rw [sep_eq o1 o2 o3 o4]
  try dsimp only
  rw [sep_eq o3 o4 o1 o2]
  unfold l_tutorlaw07_num
  try dsimp only
  simp only [dapart_eq o1 o2, cls_eq o1.1 o2.1, minim_eq o1.1 o2.1, minim_eq o3.1 o4.1, live07]
  -- the states
  have part : ∀ X : Option R, X = (bi ((apartS k K O N nx ou s t).2.1 != 0)
        (bi (((apartS k K O N nx ou s t).2.2.length : Int) == 0) (bi (!(apartS k K O N nx ou s t).1) (K0 true) (K0 false)) (K0 false))
        (bi ((classesS k K O N nx ou).2.1 != 0)
          (bi (((apartS k K O N nx ou s t).2.2.length : Int) == 0) (bi (!(apartS k K O N nx ou s t).1) (K0 true) (K0 false)) (K0 false))
          (bi (k == 2)
            (bi (decide (0 ≤ s ∧ s < (((classesS k K O N nx ou).2.2.length : Nat) : Int)))
              (bi (decide (0 ≤ t ∧ t < (((classesS k K O N nx ou).2.2.length : Nat) : Int)))
                (bi ((apartS k K O N nx ou s t).1 == ((classesS k K O N nx ou).2.2.getD s.toNat 0 != (classesS k K O N nx ou).2.2.getD t.toNat 0))
                  (bi (!(apartS k K O N nx ou s t).1) (K0 true) (bi (decide (((apartS k K O N nx ou s t).2.2.length : Int) < IntKind.i64.wrap (N + 1))) (K0 true) (K0 false)))
                  (K0 false)) none) none)
            (bi (decide (0 ≤ s ∧ s < (((classesS k K O N nx ou).2.2.length : Nat) : Int)))
              (bi (decide (0 ≤ t ∧ t < (((classesS k K O N nx ou).2.2.length : Nat) : Int)))
                (bi ((apartS k K O N nx ou s t).1 == ((classesS k K O N nx ou).2.2.getD s.toNat 0 != (classesS k K O N nx ou).2.2.getD t.toNat 0))
                  (bi (!(apartS k K O N nx ou s t).1) (K0 true) (bi (decide (((apartS k K O N nx ou s t).2.2.length : Int) < N)) (K0 true) (K0 false)))
                  (K0 false)) none) none)))) → X = K0 true := by
    intro X hX
    rw [hX]
    rcases states_part (k := k) (K := K) (O := O) (N := N) (nx := nx) (ou := ou) (s := s) (t := t) with ⟨e1, e2, e3⟩ | ⟨e1, e2, e3, e4, e5, e6, e7⟩
    · rw [br_ne e1, e2, e3]
      rfl
    · rw [br_ne' e1, br_ne' e2, br_pos e3, br_pos e4, ← e6, br_pos e3, br_pos e4, wr (N + 1) (by omega) (by omega)]
      cases hb : (apartS k K O N nx ou s t).1 with
      | false =>
        rw [show (false == false) = true from rfl, br_tt, show (!false) = true from rfl, br_tt]
        exact br_same _
      | true =>
        have := e7 hb
        rw [show (true == true) = true from rfl, br_tt, show (!true) = false from rfl, br_ff, br_pos (by omega), br_tt, br_ff, br_pos this]
        exact br_same _
  rcases sepS_fit2 (k := k) (K := K) (O := O) (N := N) (k' := k') (K' := K') (O' := O') (N' := N') o1 o2 o3 o4 with e | ⟨⟨A, B, rfl, rfl, rfl⟩, e⟩
  · rw [br_eq' e]
    exact part _ rfl
  · have hA := A.fN
    have hB := B.fN
    have FD : (⟨k, K, N, N', nx, ou, nx', ou'⟩ : Duo).Fine := ⟨⟨_, A⟩, ⟨_, B⟩⟩
    have hin : (⟨k, K, N, N', nx, ou, nx', ou'⟩ : Duo).inn (0, 0) := ⟨by dsimp only; omega, by dsimp only; omega⟩
    have hF := search_found FD hin
    have hlen := searchS_short FD hin
    have esw : sepS k K O N' nx' ou' k K O N nx ou = ((searchS ⟨k, K, N, N', nx, ou, nx', ou'⟩ (0, 0)).1, 0, (searchS ⟨k, K, N, N', nx, ou, nx', ou'⟩ (0, 0)).2) := by
      have hsw := swap_search FD hin
      have hf := (fitS_zero o3 o4 o1 o2).2 ⟨B, A, rfl, rfl, rfl⟩
      unfold sepS
      rw [if_neg (by simpa using hf)]
      have e2 : searchS ⟨k, K, N', N, nx', ou', nx, ou⟩ (0, 0) = searchS ⟨k, K, N, N', nx, ou, nx', ou'⟩ (0, 0) := hsw
      rw [e2]
    have hmi := minim_iff A B
    obtain ⟨n1, p1, q1, m1, f1, _⟩ := minim_form A
    obtain ⟨n2, p2, q2, m2, f2, _⟩ := minim_form B
    rw [m1, m2] at hmi
    rw [e, esw, m1, m2]
    try dsimp only
    have hb1 := mulK ⟨f1.fN, f1.fK⟩
    have hp1 := f1.fnx
    have hq1 : short q1 := by
      unfold short
      have := f1.fN
      rcases f1.fk with h | h
      · have := f1.fou1 h; omega
      · have := f1.fou2 h; omega
    rw [br_eq rfl, br_ne' rfl, show ((searchS ⟨k, K, N, N', nx, ou, nx', ou'⟩ (0, 0)).1 == (searchS ⟨k, K, N, N', nx, ou, nx', ou'⟩ (0, 0)).1) = true by simp, show (!true) = false from rfl, br_ff, same_eq hlen]
    try dsimp only
    rw [decide_eq_true rfl, show (!true) = false from rfl, br_ff, same_gen (by unfold short; omega) hq1]
    try dsimp only
    have heq : ((searchS ⟨k, K, N, N', nx, ou, nx', ou'⟩ (0, 0)).1 == decide (k = k ∧ K = K ∧ O = O ∧ n1 = n2 ∧ p1 = p2 ∧ q1 = q2)) = false := by
      cases hr : (searchS ⟨k, K, N, N', nx, ou, nx', ou'⟩ (0, 0)).1 with
      | true =>
        obtain ⟨hv, htl, _⟩ := hF.yes hr
        rw [decide_eq_false]
        · rfl
        · rintro ⟨_, _, _, rfl, rfl, rfl⟩
          have := hmi.1 rfl _ hv
          have h2 := (end_tel (D := ⟨k, K, N, N', nx, ou, nx', ou'⟩) A.fk (0, 0) _).1 this
          rw [h2] at htl
          cases htl
      | false =>
        have hno := (hF.no hr).2
        have := hmi.2 fun v hv => (end_tel (D := ⟨k, K, N, N', nx, ou, nx', ou'⟩) A.fk (0, 0) v).2 (hno v hv)
        simp only [Prod.mk.injEq] at this
        obtain ⟨_, _, _, rfl, _, rfl, rfl⟩ := this
        rw [decide_eq_true ⟨rfl, rfl, rfl, rfl, rfl, rfl⟩]
        rfl
    rw [heq, br_ff]
    exact part _ rfl

end
end Go.Ev
