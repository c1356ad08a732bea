/- Functions of the program, as trees of tests over numbers and lists; no program in sight. -/
import Derived.Test.YtlbomliaegmnpaaEvWord
namespace Go.Ev
noncomputable section
set_option linter.unusedVariables false
set_option linter.unusedSimpArgs false
set_option maxRecDepth 100000
set_option maxHeartbeats 4000000

/-- tutor/tutorref03.Big -/
def l_tutorref03_Big {R : Type} (m : Int) (m_1 : Int) (m_2 : Int) (m_3 : Int) (m_4 : List Int) (m_5 : List Int) (states : Int) (K0 : Bool → Option R) : Option R :=
  bi (decide (m_3 > states))
   (K0 true)
   (bi (decide ((m_4.length : Int) > 70000))
    (K0 true)
    (K0 (decide ((m_5.length : Int) > 70000))))

theorem big_cases {R : Type} (k K O N : Int) (nx ou : List Int) (states : Int) (K0 : Bool → Option R) :
    (l_tutorref03_Big k K O N nx ou states K0 = K0 true) ∨ (N ≤ states ∧ nx.length ≤ 70000 ∧ ou.length ≤ 70000 ∧ l_tutorref03_Big k K O N nx ou states K0 = K0 false) := by
  unfold l_tutorref03_Big
  by_cases h1 : N > states
  · exact .inl (by rw [br_pos h1])
  rw [br_neg h1]
  by_cases h2 : (nx.length : Int) > 70000
  · exact .inl (by rw [br_pos h2])
  rw [br_neg h2]
  by_cases h3 : (ou.length : Int) > 70000
  · exact .inl (by rw [decide_eq_true h3])
  · exact .inr ⟨by omega, by omega, by omega, by rw [decide_eq_false h3]⟩

/-- tutor/machine.says -/
def l_machine_says {R : Type} (m : Int) (m_1 : Int) (m_2 : Int) (m_3 : Int) (m_4 : List Int) (m_5 : List Int) (K0 : Int → Option R) : Option R :=
  bi (m == 1)
   (K0 m_3)
   (K0 (IntKind.i64.wrap (m_3 * m_1)))

/-- tutor/machine.head -/
def l_machine_head {R : Type} (m : Int) (m_1 : Int) (m_2 : Int) (m_3 : Int) (m_4 : List Int) (m_5 : List Int) (K0 : Int → Option R) : Option R :=
  bi (m != 1)
   (bi (m != 2)
    (K0 30)
    (bi (decide (m_1 < 1))
     (K0 1)
     (bi (decide (m_1 > 64))
      (K0 1)
      (bi (m == 1)
       (bi (m_2 != 2)
        (K0 33)
        (bi (decide (m_2 < 1))
         (K0 33)
         (bi (decide (m_2 > 64))
          (K0 33)
          (bi (decide (m_3 < 1))
           (K0 3)
           (bi (decide (m_3 > 1024))
            (K0 3)
            (bi ((m_4.length : Int) != (IntKind.i64.wrap (m_3 * m_1)))
             (K0 31)
             (l_machine_says m m_1 m_2 m_3 m_4 m_5
              (fun r1 =>
               bi ((m_5.length : Int) != r1)
                (K0 31)
                (K0 0)))))))))
       (bi (decide (m_2 < 1))
        (K0 33)
        (bi (decide (m_2 > 64))
         (K0 33)
         (bi (decide (m_3 < 1))
          (K0 3)
          (bi (decide (m_3 > 1024))
           (K0 3)
           (bi ((m_4.length : Int) != (IntKind.i64.wrap (m_3 * m_1)))
            (K0 31)
            (l_machine_says m m_1 m_2 m_3 m_4 m_5
             (fun r2 =>
              bi ((m_5.length : Int) != r2)
               (K0 31)
               (K0 0))))))))))))
   (bi (decide (m_1 < 1))
    (K0 1)
    (bi (decide (m_1 > 64))
     (K0 1)
     (bi (m == 1)
      (bi (m_2 != 2)
       (K0 33)
       (bi (decide (m_2 < 1))
        (K0 33)
        (bi (decide (m_2 > 64))
         (K0 33)
         (bi (decide (m_3 < 1))
          (K0 3)
          (bi (decide (m_3 > 1024))
           (K0 3)
           (bi ((m_4.length : Int) != (IntKind.i64.wrap (m_3 * m_1)))
            (K0 31)
            (l_machine_says m m_1 m_2 m_3 m_4 m_5
             (fun r3 =>
              bi ((m_5.length : Int) != r3)
               (K0 31)
               (K0 0)))))))))
      (bi (decide (m_2 < 1))
       (K0 33)
       (bi (decide (m_2 > 64))
        (K0 33)
        (bi (decide (m_3 < 1))
         (K0 3)
         (bi (decide (m_3 > 1024))
          (K0 3)
          (bi ((m_4.length : Int) != (IntKind.i64.wrap (m_3 * m_1)))
           (K0 31)
           (l_machine_says m m_1 m_2 m_3 m_4 m_5
            (fun r4 =>
             bi ((m_5.length : Int) != r4)
              (K0 31)
              (K0 0)))))))))))

theorem head_eq {R : Type} (k K O N : Int) (nx ou : List Int) (K0 : Int → Option R) : l_machine_head k K O N nx ou K0 = K0 (headS k K O N nx ou) := by
  unfold l_machine_head l_machine_says headS
  simp only [br_if, bne_iff_ne, beq_iff_eq, decide_eq_true_eq, ne_eq]
  by_cases hb : (1 ≤ N ∧ N ≤ 1024) ∧ 1 ≤ K ∧ K ≤ 64
  · have := mulK hb
    rw [wr (N * K) (by omega) (by omega)]
    repeat' (refine ite_l (fun _ => ?_) (fun _ => ?_))
    all_goals
      refine congrArg K0 ?_
      repeat' (refine ite_r (fun _ => ?_) (fun _ => ?_))
      all_goals omega
  · repeat' (refine ite_l (fun _ => ?_) (fun _ => ?_))
    all_goals
      refine congrArg K0 ?_
      repeat' (refine ite_r (fun _ => ?_) (fun _ => ?_))
      all_goals omega

/-- tutor/machine.beyond -/
def s_machine_beyond_2 {R : Type} (g58_2 : (List Int) → Int → Int → Int → Option R) (K0 : Int → Option R) (l : List Int) (n : Int) (x7 : Int) (x8 : Int) : Option R :=
  bi (decide (x8 < x7))
   (bi (decide (0 ≤ x8 ∧ x8 < ((l.length : Nat) : Int)))
    (bi (decide ((IntKind.u64.wrap (l.getD x8.toNat 0)) ≥ (IntKind.u64.wrap n)))
     (K0 x8)
     (g58_2 l n x7 (IntKind.i64.wrap (x8 + 1))))
    none)
   (K0 (-1))

/-- tutor/machine.beyond -/
def e_machine_beyond {R : Type} (g58_2 : (List Int) → Int → Int → Int → Option R) (K0 : Int → Option R) (l : List Int) (n : Int) : Option R :=
  g58_2 l n (l.length : Int) 0

def run_machine_beyond {R : Type} (K0 : Int → Option R) : Nat → (List Int) → Int → Int → Int → Option R
  | 0 => fun _ _ _ _ => none
  | n + 1 => s_machine_beyond_2 (run_machine_beyond K0 n) K0

def l_machine_beyond {R : Type} (l : List Int) (n : Int) (K0 : Int → Option R) : Option R := bi (decide (short l)) (K0 (beyondS n l)) none

theorem ok_machine_beyond {R : Type} (l : List Int) (n : Int) (K0 : Int → Option R) {r : R} (h : l_machine_beyond l n K0 = some r) : ∃ fuel, e_machine_beyond (run_machine_beyond K0 fuel) K0 l n = some r := by
  unfold l_machine_beyond at h
  rcases bi_some h with ⟨hs, h⟩ | ⟨_, h⟩
  · have hs : l.length < 4611686018427387904 := of_decide_eq_true hs
    refine ⟨l.length + 1, ?_⟩
    rw [← h]
    have key := scan_all (F := fun m i => run_machine_beyond K0 m l n (l.length : Int) (i : Int)) (bad n) (l := l) (A := fun i => K0 i) (B := K0 (-1))
      (fun m => by
        show s_machine_beyond_2 _ _ _ _ _ _ = _
        unfold s_machine_beyond_2
        rw [br_neg (by omega)])
      (fun m i hi => by
        show s_machine_beyond_2 _ _ _ _ _ _ = _
        unfold s_machine_beyond_2
        rw [br_pos (by omega), br_pos (by omega), br_if, Int.toNat_natCast, getD_of 0 hi, wr _ (by omega) (by omega)]
        rfl)
    unfold e_machine_beyond beyondS
    refine key.trans ?_
    cases findP (bad n) l <;> rfl
  · cases h

/-- tutor/machine.Check -/
def l_machine_Check {R : Type} (m : Int) (m_1 : Int) (m_2 : Int) (m_3 : Int) (m_4 : List Int) (m_5 : List Int) (K0 : Int → Int → Option R) : Option R :=
  l_machine_head m m_1 m_2 m_3 m_4 m_5
   (fun r1 =>
    bi (r1 != 0)
     (K0 0 r1)
     (l_machine_beyond m_4 m_3
      (fun r2 =>
       bi (decide (r2 ≥ 0))
        (K0 r2 32)
        (l_machine_beyond m_5 m_2
         (fun r3 =>
          bi (decide (r3 ≥ 0))
           (K0 r3 33)
           (K0 0 0))))))

theorem check_eq {R : Type} (k K O N : Int) (nx ou : List Int) (h1 : short nx) (h2 : short ou) (K0 : Int → Int → Option R) :
    l_machine_Check k K O N nx ou K0 = K0 (checkS k K O N nx ou).1 (checkS k K O N nx ou).2 := by
  unfold l_machine_Check checkS l_machine_beyond beyondS
  rw [head_eq]
  by_cases h : headS k K O N nx ou = 0
  · rw [br_ne' h, if_neg (by simpa using h), br_pos h1]
    cases hf : findP (bad N) nx with
    | some i => simp only [br_pos (show ((i : Nat) : Int) ≥ 0 by omega)]
    | none =>
      simp only [br_neg (show ¬ ((-1 : Int) ≥ 0) by omega), br_pos h2]
      cases hg : findP (bad O) ou with
      | some i => simp only [br_pos (show ((i : Nat) : Int) ≥ 0 by omega)]
      | none => simp only [br_neg (show ¬ ((-1 : Int) ≥ 0) by omega)]
  · rw [br_ne h, if_pos (by simpa using h)]

/-- tutor/word.alphabet -/
def l_word_alphabet {R : Type} (k : Int) (K0 : Bool → Option R) : Option R :=
  bi (decide (k ≥ 1))
   (K0 (decide (k ≤ 64)))
   (K0 false)

theorem alpha_eq {R : Type} (k : Int) (K0 : Bool → Option R) : l_word_alphabet k K0 = K0 (decide (1 ≤ k ∧ k ≤ 64)) := by
  unfold l_word_alphabet
  by_cases h : k ≥ 1
  · rw [br_pos h]
    congr 1
    rw [decide_eq_decide]
    omega
  · rw [br_neg h, decide_eq_false (by omega)]

/-- tutor/word.Check -/
def s_word_Check_6 {R : Type} (g59_6 : (List Int) → Int → Int → Int → Option R) (K0 : Int → Int → Option R) (w : List Int) (k : Int) (x16 : Int) (x17 : Int) : Option R :=
  bi (decide (x17 < x16))
   (bi (decide (0 ≤ x17 ∧ x17 < ((w.length : Nat) : Int)))
    (bi (decide ((w.getD x17.toNat 0) < 0))
     (K0 x17 10)
     (bi (decide (0 ≤ x17 ∧ x17 < ((w.length : Nat) : Int)))
      (bi (decide ((w.getD x17.toNat 0) ≥ k))
       (K0 x17 10)
       (g59_6 w k x16 (IntKind.i64.wrap (x17 + 1))))
      none))
    none)
   (K0 0 0)

/-- tutor/word.Check -/
def e_word_Check {R : Type} (g59_6 : (List Int) → Int → Int → Int → Option R) (K0 : Int → Int → Option R) (w : List Int) (k : Int) : Option R :=
  l_word_alphabet k
   (fun r1 =>
    bi (!r1)
     (K0 0 1)
     (bi (decide ((w.length : Int) > 4096))
      (K0 0 2)
      (g59_6 w k (w.length : Int) 0)))

def run_word_Check {R : Type} (K0 : Int → Int → Option R) : Nat → (List Int) → Int → Int → Int → Option R
  | 0 => fun _ _ _ _ => none
  | n + 1 => s_word_Check_6 (run_word_Check K0 n) K0

def l_word_Check {R : Type} (w : List Int) (k : Int) (K0 : Int → Int → Option R) : Option R := K0 (wordS k w).1 (wordS k w).2

theorem ok_word_Check {R : Type} (w : List Int) (k : Int) (K0 : Int → Int → Option R) {r : R} (h : l_word_Check w k K0 = some r) : ∃ fuel, e_word_Check (run_word_Check K0 fuel) K0 w k = some r := by
  refine ⟨w.length + 1, ?_⟩
  rw [← h]
  unfold l_word_Check e_word_Check l_word_alphabet wordS
  by_cases h1 : 1 ≤ k
  · rw [br_pos (by omega)]
    by_cases h2 : k ≤ 64
    · rw [decide_eq_true h2, if_neg (by omega)]
      show bi false _ _ = _
      rw [br_ff]
      by_cases h3 : w.length > 4096
      · rw [br_pos (by omega), if_pos h3]
      · rw [br_neg (by omega), if_neg h3]
        have key := scan_all (F := fun m i => run_word_Check K0 m w k (w.length : Int) (i : Int)) (outside k) (l := w) (A := fun i => K0 i 10) (B := K0 0 0)
          (fun m => by
            show s_word_Check_6 _ _ _ _ _ _ = _
            unfold s_word_Check_6
            rw [br_neg (by omega)])
          (fun m i hi => by
            show s_word_Check_6 _ _ _ _ _ _ = _
            unfold s_word_Check_6
            rw [br_pos (by omega), br_pos (by omega), br_pos (p := 0 ≤ (i : Int) ∧ (i : Int) < ((w.length : Nat) : Int)) (by omega), Int.toNat_natCast, getD_of 0 hi, wr _ (by omega) (by omega)]
            unfold outside
            cases decide (w[i] < 0) <;> cases decide (w[i] ≥ k) <;> rfl)
        refine key.trans ?_
        cases findP (outside k) w <;> rfl
    · rw [decide_eq_false h2, if_pos (by omega)]
      rfl
  · rw [br_neg (by omega), if_pos (by omega)]
    rfl

/-- tutor/machine.From -/
def s_machine_From_10 {R : Type} (g22_10 : Int → (List Int) → Int → Int → Int → Int → Int → Int → (List Int) → (List Int) → (List Int) → Option R) (K0 : Int → Int → (List Int) → Option R) (s : Int) (x42 : List Int) (x43 : Int) (x44 : Int) (o0 : Int) (o0_1 : Int) (o0_2 : Int) (o0_3 : Int) (o0_4 : List Int) (o0_5 : List Int) (o1 : List Int) : Option R :=
  bi (decide (x44 < x43))
   (bi (decide (0 ≤ x44 ∧ x44 < ((x42.length : Nat) : Int)))
    (bi (o0 == 2)
     (bi (decide (0 ≤ (IntKind.i64.wrap ((IntKind.i64.wrap (s * o0_1)) + (x42.getD x44.toNat 0))) ∧ (IntKind.i64.wrap ((IntKind.i64.wrap (s * o0_1)) + (x42.getD x44.toNat 0))) < ((o0_5.length : Nat) : Int)))
      (bi (decide ((o1.length + [o0_5.getD ((IntKind.i64.wrap ((IntKind.i64.wrap (s * o0_1)) + (x42.getD x44.toNat 0))).toNat) 0].length) * 8 ≤ lim))
       (bi (decide (0 ≤ (IntKind.i64.wrap ((IntKind.i64.wrap (s * o0_1)) + (x42.getD x44.toNat 0))) ∧ (IntKind.i64.wrap ((IntKind.i64.wrap (s * o0_1)) + (x42.getD x44.toNat 0))) < ((o0_4.length : Nat) : Int)))
        (g22_10 (o0_4.getD ((IntKind.i64.wrap ((IntKind.i64.wrap (s * o0_1)) + (x42.getD x44.toNat 0))).toNat) 0) x42 x43 (IntKind.i64.wrap (x44 + 1)) o0 o0_1 o0_2 o0_3 o0_4 o0_5 (o1 ++ [o0_5.getD ((IntKind.i64.wrap ((IntKind.i64.wrap (s * o0_1)) + (x42.getD x44.toNat 0))).toNat) 0]))
        none)
       none)
      none)
     (bi (decide (0 ≤ (IntKind.i64.wrap ((IntKind.i64.wrap (s * o0_1)) + (x42.getD x44.toNat 0))) ∧ (IntKind.i64.wrap ((IntKind.i64.wrap (s * o0_1)) + (x42.getD x44.toNat 0))) < ((o0_4.length : Nat) : Int)))
      (g22_10 (o0_4.getD ((IntKind.i64.wrap ((IntKind.i64.wrap (s * o0_1)) + (x42.getD x44.toNat 0))).toNat) 0) x42 x43 (IntKind.i64.wrap (x44 + 1)) o0 o0_1 o0_2 o0_3 o0_4 o0_5 o1)
      none))
    none)
   (bi (o0 == 1)
    (bi (decide (0 ≤ s ∧ s < ((o0_5.length : Nat) : Int)))
     (K0 s 0 [o0_5.getD s.toNat 0])
     none)
    (K0 s 0 o1))

/-- tutor/machine.From -/
def e_machine_From {R : Type} (g22_10 : Int → (List Int) → Int → Int → Int → Int → Int → Int → (List Int) → (List Int) → (List Int) → Option R) (K0 : Int → Int → (List Int) → Option R) (m : Int) (m_1 : Int) (m_2 : Int) (m_3 : Int) (m_4 : List Int) (m_5 : List Int) (s : Int) (w : List Int) : Option R :=
  l_machine_Check m m_1 m_2 m_3 m_4 m_5
   (fun r1 r2 =>
    bi (r2 != 0)
     (K0 0 r2 ([] : List Int))
     (bi (decide (s < 0))
      (K0 0 32 ([] : List Int))
      (bi (decide (s ≥ m_3))
       (K0 0 32 ([] : List Int))
       (l_word_Check w m_1
        (fun r3 r4 =>
         bi (r4 != 0)
          (K0 0 r4 ([] : List Int))
          (g22_10 s w (w.length : Int) 0 m m_1 m_2 m_3 m_4 m_5 ([] : List Int)))))))

def run_machine_From {R : Type} (K0 : Int → Int → (List Int) → Option R) : Nat → Int → (List Int) → Int → Int → Int → Int → Int → Int → (List Int) → (List Int) → (List Int) → Option R
  | 0 => fun _ _ _ _ _ _ _ _ _ _ _ => none
  | n + 1 => s_machine_From_10 (run_machine_From K0 n) K0

def l_machine_From {R : Type} (k K O N : Int) (nx ou : List Int) (s : Int) (w : List Int) (K0 : Int → Int → List Int → Option R) : Option R :=
  bi (decide (okL nx ∧ okL ou)) (K0 (fromS k K O N nx ou s w).1 (fromS k K O N nx ou s w).2.1 (fromS k K O N nx ou s w).2.2) none

theorem ok_machine_From {R : Type} (k K O N : Int) (nx ou : List Int) (s : Int) (w : List Int) (K0 : Int → Int → List Int → Option R) {r : R} (h : l_machine_From k K O N nx ou s w K0 = some r) :
    ∃ fuel, e_machine_From (run_machine_From K0 fuel) K0 k K O N nx ou s w = some r := by
  unfold l_machine_From at h
  rcases bi_some h with ⟨hs, h⟩ | ⟨_, h⟩
  · obtain ⟨h1, h2⟩ := of_decide_eq_true hs
    refine ⟨w.length + 1, ?_⟩
    rw [← h]
    unfold e_machine_From fromS
    rw [check_eq _ _ _ _ _ _ h1.1 h2.1, checkS_eq h1 h2]
    by_cases hc : (checkR k K O N nx ou).2 = 0
    · have F := checkR_fine.1 hc
      rw [br_ne' hc, if_neg (by simpa using hc)]
      by_cases hs1 : s < 0
      · rw [br_pos hs1, if_pos (.inl hs1)]
      rw [br_neg hs1]
      by_cases hs2 : s ≥ N
      · rw [br_pos hs2, if_pos (.inr hs2)]
      rw [br_neg hs2, if_neg (by omega)]
      unfold l_word_Check
      dsimp only
      by_cases hw : (wordS K w).2 = 0
      · rw [br_ne' hw, if_neg (by simpa using hw)]
        obtain ⟨_, hwl, hwx⟩ := wordS_zero.1 hw
        have hK := F.fK
        have hN := F.fN
        have hNK := mulK ⟨hN, hK⟩
        have hnx := F.fnx
        refine (fold_all (F := fun m i (t : Int × List Int) => run_machine_From K0 m t.1 w (w.length : Int) (i : Int) k K O N nx ou t.2) (f := goS k K nx ou) (l := w)
          (B := fun t => K0 t.1 0 (if k = 1 then [ou.getD t.1.toNat 0] else t.2)) (fun i t => (0 ≤ t.1 ∧ t.1 < N) ∧ t.2.length ≤ i) ?_ ?_ (s, []) ⟨by omega, by simp⟩).trans ?_
        · intro m t ht
          show s_machine_From_10 _ _ _ _ _ _ _ _ _ _ _ _ _ = _
          unfold s_machine_From_10
          rw [br_neg (by omega)]
          by_cases hk : k = 1
          · have := F.fou1 hk
            rw [br_eq hk, br_pos (by omega), if_pos hk]
          · rw [br_eq' hk, if_neg hk]
        · intro m i t hi ht
          have hx := hwx _ (List.getElem_mem hi)
          have hin := idx_in ht.1 hx
          have hg : (if k = 2 then t.2 ++ [ou.getD (t.1 * K + w[i]).toNat 0] else t.2).length ≤ i + 1 := by
            split
            · simp; omega
            · omega
          refine ⟨⟨goS_in F ht.1 hx, hg⟩, ?_⟩
          show s_machine_From_10 (run_machine_From K0 m) _ _ _ _ _ _ _ _ _ _ _ _ = run_machine_From K0 m (nx.getD (t.1 * K + w[i]).toNat 0) w (w.length : Int) ((i + 1 : Nat) : Int) k K O N nx ou (if k = 2 then t.2 ++ [ou.getD (t.1 * K + w[i]).toNat 0] else t.2)
          unfold s_machine_From_10
          rw [br_pos (by omega), br_pos (by omega), Int.toNat_natCast, getD_of 0 hi, wr (t.1 * K) (by omega) (by omega), wr (t.1 * K + w[i]) (by omega) (by omega), wr ((i : Int) + 1) (by omega) (by omega)]
          by_cases hk : k = 2
          · have := F.fou2 hk
            rw [br_eq hk, br_pos (by omega), br_pos (by simp [lim]; omega), br_pos (by omega), if_pos hk]
            rfl
          · rw [br_eq' hk, br_pos (by omega), if_neg hk]
            rfl
        · unfold endS
          rfl
      · rw [br_ne hw, if_pos (by simpa using hw)]
    · rw [br_ne hc, if_pos (by simpa using hc)]
  · cases h

theorem from_eq {R : Type} {k K O N : Int} {nx ou : List Int} {s : Int} {w : List Int} (h1 : okL nx) (h2 : okL ou) (K0 : Int → Int → List Int → Option R) :
    l_machine_From k K O N nx ou s w K0 = K0 (fromS k K O N nx ou s w).1 (fromS k K O N nx ou s w).2.1 (fromS k K O N nx ou s w).2.2 := by
  unfold l_machine_From
  rw [br_pos ⟨h1, h2⟩]
theorem fromS_fine {k K O N : Int} {nx ou : List Int} {s : Int} {w : List Int} (F : Fine k K O N nx ou) (hs : 0 ≤ s ∧ s < N) (hw : (wordS K w).2 = 0) :
    fromS k K O N nx ou s w = ((endS k K nx ou s w).1, 0, (endS k K nx ou s w).2) := by
  unfold fromS
  rw [if_neg (by simpa using checkR_fine.2 F), if_neg (by omega), if_neg (by simpa using hw)]

/-- tutor/machine.Run -/
def l_machine_Run {R : Type} (m : Int) (m_1 : Int) (m_2 : Int) (m_3 : Int) (m_4 : List Int) (m_5 : List Int) (w : List Int) (K0 : Int → (List Int) → Option R) : Option R :=
  l_machine_From m m_1 m_2 m_3 m_4 m_5 0 w
   (fun r1 r2 r3 =>
    K0 r2 r3)

/-- tutor/tutorlaw03.num -/
def l_tutorlaw03_num {R : Type} (e : Int) (K0 : Int → Option R) : Option R :=
  K0 e

/-- tutor/tutorref01.Same -/
def s_tutorref01_Same_4 {R : Type} (g24_4 : (List Int) → (List Int) → Int → Option R) (K0 : Bool → Option R) (a : List Int) (b : List Int) (i : Int) : Option R :=
  bi (decide (i < (a.length : Int)))
   (bi (decide (0 ≤ i ∧ i < ((a.length : Nat) : Int)))
    (bi (decide (0 ≤ i ∧ i < ((b.length : Nat) : Int)))
     (bi ((a.getD i.toNat 0) != (b.getD i.toNat 0))
      (K0 false)
      (g24_4 a b (IntKind.i64.wrap (i + 1))))
     none)
    none)
   (K0 true)

/-- tutor/tutorref01.Same -/
def e_tutorref01_Same {R : Type} (g24_4 : (List Int) → (List Int) → Int → Option R) (K0 : Bool → Option R) (a : List Int) (b : List Int) : Option R :=
  bi ((a.length : Int) != (b.length : Int))
   (K0 false)
   (g24_4 a b 0)

def run_tutorref01_Same {R : Type} (K0 : Bool → Option R) : Nat → (List Int) → (List Int) → Int → Option R
  | 0 => fun _ _ _ => none
  | n + 1 => s_tutorref01_Same_4 (run_tutorref01_Same K0 n) K0

def l_tutorref01_Same {R : Type} (a : List Int) (b : List Int) (K0 : Bool → Option R) : Option R := bi (decide (short a)) (K0 (decide (a = b))) none

theorem findP_zip {a b : List Int} (hl : a.length = b.length) : findP (fun i => a.getD i 0 != b.getD i 0) (List.range a.length) = none ↔ a = b := by
  rw [findP_none]
  constructor
  · intro h
    refine List.ext_getElem hl fun i h1 h2 => ?_
    have := h i (by simpa using h1)
    rw [getD_of 0 h1, getD_of 0 h2] at this
    simpa using this
  · rintro rfl i _
    simp

theorem ok_tutorref01_Same {R : Type} (a : List Int) (b : List Int) (K0 : Bool → Option R) {r : R} (h : l_tutorref01_Same a b K0 = some r) : ∃ fuel, e_tutorref01_Same (run_tutorref01_Same K0 fuel) K0 a b = some r := by
  unfold l_tutorref01_Same at h
  rcases bi_some h with ⟨hs, h⟩ | ⟨_, h⟩
  · have hs : a.length < 4611686018427387904 := of_decide_eq_true hs
    refine ⟨a.length + 1, ?_⟩
    rw [← h]
    unfold e_tutorref01_Same
    by_cases hl : a.length = b.length
    · rw [br_ne' (by omega)]
      have key := scan_all (F := fun m i => run_tutorref01_Same K0 m a b (i : Int)) (fun i => a.getD i 0 != b.getD i 0) (l := List.range a.length) (A := fun i => K0 false) (B := K0 true)
        (fun m => by
          show s_tutorref01_Same_4 _ _ _ _ _ = _
          unfold s_tutorref01_Same_4
          rw [List.length_range, br_neg (by omega)])
        (fun m i hi => by
          rw [List.length_range] at hi
          show s_tutorref01_Same_4 _ _ _ _ _ = _
          unfold s_tutorref01_Same_4
          rw [br_pos (by omega), br_pos (by omega), br_pos (by omega), br_if, Int.toNat_natCast, wr _ (by omega) (by omega), List.getElem_range]
          rfl)
      rw [List.length_range] at key
      refine key.trans ?_
      by_cases e : a = b
      · rw [(findP_zip hl).2 e]
        simp [e]
      · have : findP (fun i => a.getD i 0 != b.getD i 0) (List.range a.length) ≠ none := fun h => e ((findP_zip hl).1 h)
        cases hf : findP (fun i => a.getD i 0 != b.getD i 0) (List.range a.length) with
        | none => exact absurd hf this
        | some j => simp [e]
    · rw [br_ne (by omega)]
      have e : a ≠ b := fun e => hl (by rw [e])
      simp [e]
  · cases h

theorem same_eq {R : Type} {a b : List Int} (h : short a) (K0 : Bool → Option R) : l_tutorref01_Same a b K0 = K0 (decide (a = b)) := by
  unfold l_tutorref01_Same
  rw [br_pos h]

/-- tutor/tutorlaw03.live -/
def l_tutorlaw03_live {R : Type}  (K0 : Bool → Option R) : Option R :=
  l_machine_Run 1 1 2 2 [1, 0] [0, 1] [0]
   (fun r1 r2 =>
    l_machine_Run 2 1 2 2 [1, 0] [0, 1] [0, 0, 0]
     (fun r3 r4 =>
      l_machine_Check 0 0 0 0 ([] : List Int) ([] : List Int)
       (fun r5 r6 =>
        l_tutorlaw03_num r1
         (fun r7 =>
          l_tutorlaw03_num r3
           (fun r8 =>
            bi ((IntKind.i64.wrap (r7 + r8)) == 0)
             (l_tutorref01_Same r2 [1]
              (fun r9 =>
               bi r9
                (l_tutorref01_Same r4 [0, 1, 0]
                 (fun r10 =>
                  bi r10
                   (l_tutorlaw03_num r6
                    (fun r11 =>
                     K0 (r11 == 30)))
                   (K0 false)))
                (K0 false)))
             (K0 false))))))

theorem live03 {R : Type} (K0 : Bool → Option R) : l_tutorlaw03_live K0 = K0 true := by
  have e1 : fromS 1 1 2 2 [1, 0] [0, 1] 0 [0] = (1, 0, [1]) := by decide
  have e2 : fromS 2 1 2 2 [1, 0] [0, 1] 0 [0, 0, 0] = (1, 0, [0, 1, 0]) := by decide
  have e3 : checkS 0 0 0 0 [] [] = (0, 30) := by decide
  unfold l_tutorlaw03_live l_machine_Run
  rw [from_eq (by decide) (by decide), e1]
  try dsimp only
  rw [from_eq (by decide) (by decide), e2]
  try dsimp only
  rw [check_eq _ _ _ _ _ _ (by decide) (by decide), e3]
  try dsimp only [l_tutorlaw03_num]
  rw [br_eq (by decide), same_eq (by decide)]
  try dsimp only
  rw [br_pos rfl, same_eq (by decide)]
  try dsimp only
  rw [br_pos rfl]
  rfl

/-- tutor/tutorref03.Copy -/
def l_tutorref03_Copy {R : Type} (m : Int) (m_1 : Int) (m_2 : Int) (m_3 : Int) (m_4 : List Int) (m_5 : List Int) (K0 : Int → Int → Int → Int → (List Int) → (List Int) → Option R) : Option R :=
  bi (decide ((([] : List Int).length + m_4.length) * 8 ≤ lim))
   (bi (decide ((([] : List Int).length + m_5.length) * 8 ≤ lim))
    (K0 m m_1 m_2 m_3 (([] : List Int) ++ m_4) (([] : List Int) ++ m_5))
    none)
   none

theorem copy_eq {R : Type} {k K O N : Int} {nx ou : List Int} (h1 : nx.length ≤ 70000) (h2 : ou.length ≤ 70000) (K0 : Int → Int → Int → Int → List Int → List Int → Option R) :
    l_tutorref03_Copy k K O N nx ou K0 = K0 k K O N nx ou := by
  unfold l_tutorref03_Copy
  rw [br_pos (by simp [lim]; omega), br_pos (by simp [lim]; omega)]
  rfl

/-- tutor/tutorref01.Apart -/
def s_tutorref01_Apart_2 {R : Type} (g27_2 : Int → (List (List Int)) → Option R) (g27_5 : Int → Int → (List (List Int)) → Option R) (g27_9 : Int → (List (List Int)) → Option R) (g27_13 : Int → Nat → Int → (List (List Int)) → Option R) (g27_17 : Int → (List (List Int)) → Option R) (g27_13b : Int → Int → (List (List Int)) → Nat → Nat → Option R) (g27_20 : Int → Int → (List (List Int)) → Option R) (K0 : Bool → (List (List Int)) → Option R) (i : Int) (o0 : List (List Int)) : Option R :=
  bi (decide (i < (o0.length : Int)))
   (g27_5 i 0 o0)
   (g27_9 0 o0)

/-- tutor/tutorref01.Apart -/
def s_tutorref01_Apart_5 {R : Type} (g27_2 : Int → (List (List Int)) → Option R) (g27_5 : Int → Int → (List (List Int)) → Option R) (g27_9 : Int → (List (List Int)) → Option R) (g27_13 : Int → Nat → Int → (List (List Int)) → Option R) (g27_17 : Int → (List (List Int)) → Option R) (g27_13b : Int → Int → (List (List Int)) → Nat → Nat → Option R) (g27_20 : Int → Int → (List (List Int)) → Option R) (K0 : Bool → (List (List Int)) → Option R) (i : Int) (k : Int) (o0 : List (List Int)) : Option R :=
  bi (decide (0 ≤ i ∧ i < ((o0.length : Nat) : Int)))
   (bi (decide (k < ((o0.getD i.toNat []).length : Int)))
    (bi (decide (0 ≤ i ∧ i < ((o0.length : Nat) : Int)))
     (bi (decide (0 ≤ k ∧ k < (((o0.getD i.toNat []).length : Nat) : Int)))
      (g27_5 i (IntKind.i64.wrap (k + 1)) (o0.set i.toNat ((o0.getD i.toNat []).set k.toNat (IntKind.i64.wrap ((-1000) - i)))))
      none)
     none)
    (g27_2 (IntKind.i64.wrap (i + 1)) o0))
   none

/-- tutor/tutorref01.Apart -/
def s_tutorref01_Apart_9 {R : Type} (g27_2 : Int → (List (List Int)) → Option R) (g27_5 : Int → Int → (List (List Int)) → Option R) (g27_9 : Int → (List (List Int)) → Option R) (g27_13 : Int → Nat → Int → (List (List Int)) → Option R) (g27_17 : Int → (List (List Int)) → Option R) (g27_13b : Int → Int → (List (List Int)) → Nat → Nat → Option R) (g27_20 : Int → Int → (List (List Int)) → Option R) (K0 : Bool → (List (List Int)) → Option R) (i : Int) (o0 : List (List Int)) : Option R :=
  bi (decide (i < (o0.length : Int)))
   (bi (decide (0 ≤ i ∧ i < ((o0.length : Nat) : Int)))
    (g27_13 i i.toNat 0 o0)
    none)
   (g27_17 0 o0)

/-- tutor/tutorref01.Apart -/
def s_tutorref01_Apart_13a {R : Type} (g27_2 : Int → (List (List Int)) → Option R) (g27_5 : Int → Int → (List (List Int)) → Option R) (g27_9 : Int → (List (List Int)) → Option R) (g27_13 : Int → Nat → Int → (List (List Int)) → Option R) (g27_17 : Int → (List (List Int)) → Option R) (g27_13b : Int → Int → (List (List Int)) → Nat → Nat → Option R) (g27_20 : Int → Int → (List (List Int)) → Option R) (K0 : Bool → (List (List Int)) → Option R) (i : Int) (x : Nat) (k : Int) (o0 : List (List Int)) : Option R :=
  bi (decide (k < 6))
   (bi (decide (((o0.getD x []).length + [IntKind.i64.wrap ((-5000) - i)].length) * 8 ≤ lim))
    (g27_13b i (IntKind.i64.wrap (k + 1)) o0 x ((o0.getD x []).length + [IntKind.i64.wrap ((-5000) - i)].length))
    none)
   (g27_9 (IntKind.i64.wrap (i + 1)) o0)

/-- tutor/tutorref01.Apart -/
def s_tutorref01_Apart_17 {R : Type} (g27_2 : Int → (List (List Int)) → Option R) (g27_5 : Int → Int → (List (List Int)) → Option R) (g27_9 : Int → (List (List Int)) → Option R) (g27_13 : Int → Nat → Int → (List (List Int)) → Option R) (g27_17 : Int → (List (List Int)) → Option R) (g27_13b : Int → Int → (List (List Int)) → Nat → Nat → Option R) (g27_20 : Int → Int → (List (List Int)) → Option R) (K0 : Bool → (List (List Int)) → Option R) (i : Int) (o0 : List (List Int)) : Option R :=
  bi (decide (i < (o0.length : Int)))
   (g27_20 i 0 o0)
   (K0 true o0)

/-- tutor/tutorref01.Apart -/
def s_tutorref01_Apart_13b {R : Type} (g27_2 : Int → (List (List Int)) → Option R) (g27_5 : Int → Int → (List (List Int)) → Option R) (g27_9 : Int → (List (List Int)) → Option R) (g27_13 : Int → Nat → Int → (List (List Int)) → Option R) (g27_17 : Int → (List (List Int)) → Option R) (g27_13b : Int → Int → (List (List Int)) → Nat → Nat → Option R) (g27_20 : Int → Int → (List (List Int)) → Option R) (K0 : Bool → (List (List Int)) → Option R) (i : Int) (k : Int) (o0 : List (List Int)) (o1 : Nat) (o1_1 : Nat) : Option R :=
  bi (decide (k < 6))
   (bi (decide ((o1_1 + [IntKind.i64.wrap ((-5000) - i)].length) * 8 ≤ lim))
    (g27_13b i (IntKind.i64.wrap (k + 1)) o0 o1 (o1_1 + [IntKind.i64.wrap ((-5000) - i)].length))
    none)
   (g27_9 (IntKind.i64.wrap (i + 1)) o0)

/-- tutor/tutorref01.Apart -/
def s_tutorref01_Apart_20 {R : Type} (g27_2 : Int → (List (List Int)) → Option R) (g27_5 : Int → Int → (List (List Int)) → Option R) (g27_9 : Int → (List (List Int)) → Option R) (g27_13 : Int → Nat → Int → (List (List Int)) → Option R) (g27_17 : Int → (List (List Int)) → Option R) (g27_13b : Int → Int → (List (List Int)) → Nat → Nat → Option R) (g27_20 : Int → Int → (List (List Int)) → Option R) (K0 : Bool → (List (List Int)) → Option R) (i : Int) (k : Int) (o0 : List (List Int)) : Option R :=
  bi (decide (0 ≤ i ∧ i < ((o0.length : Nat) : Int)))
   (bi (decide (k < ((o0.getD i.toNat []).length : Int)))
    (bi (decide (0 ≤ i ∧ i < ((o0.length : Nat) : Int)))
     (bi (decide (0 ≤ k ∧ k < (((o0.getD i.toNat []).length : Nat) : Int)))
      (bi (((o0.getD i.toNat []).getD k.toNat 0) != (IntKind.i64.wrap ((-1000) - i)))
       (K0 false o0)
       (g27_20 i (IntKind.i64.wrap (k + 1)) o0))
      none)
     none)
    (g27_17 (IntKind.i64.wrap (i + 1)) o0))
   none

/-- tutor/tutorref01.Apart -/
def e_tutorref01_Apart {R : Type} (g27_2 : Int → (List (List Int)) → Option R) (g27_5 : Int → Int → (List (List Int)) → Option R) (g27_9 : Int → (List (List Int)) → Option R) (g27_13 : Int → Nat → Int → (List (List Int)) → Option R) (g27_17 : Int → (List (List Int)) → Option R) (g27_13b : Int → Int → (List (List Int)) → Nat → Nat → Option R) (g27_20 : Int → Int → (List (List Int)) → Option R) (K0 : Bool → (List (List Int)) → Option R) (o0 : List (List Int)) : Option R :=
  g27_2 0 o0

def run_tutorref01_Apart {R : Type} (K0 : Bool → (List (List Int)) → Option R) : Nat → (Int → (List (List Int)) → Option R) × (Int → Int → (List (List Int)) → Option R) × (Int → (List (List Int)) → Option R) × (Int → Nat → Int → (List (List Int)) → Option R) × (Int → (List (List Int)) → Option R) × (Int → Int → (List (List Int)) → Nat → Nat → Option R) × (Int → Int → (List (List Int)) → Option R)
  | 0 => (fun _ _ => none, fun _ _ _ => none, fun _ _ => none, fun _ _ _ _ => none, fun _ _ => none, fun _ _ _ _ _ => none, fun _ _ _ => none)
  | n + 1 => (s_tutorref01_Apart_2 (run_tutorref01_Apart K0 n).1 (run_tutorref01_Apart K0 n).2.1 (run_tutorref01_Apart K0 n).2.2.1 (run_tutorref01_Apart K0 n).2.2.2.1 (run_tutorref01_Apart K0 n).2.2.2.2.1 (run_tutorref01_Apart K0 n).2.2.2.2.2.1 (run_tutorref01_Apart K0 n).2.2.2.2.2.2 K0, s_tutorref01_Apart_5 (run_tutorref01_Apart K0 n).1 (run_tutorref01_Apart K0 n).2.1 (run_tutorref01_Apart K0 n).2.2.1 (run_tutorref01_Apart K0 n).2.2.2.1 (run_tutorref01_Apart K0 n).2.2.2.2.1 (run_tutorref01_Apart K0 n).2.2.2.2.2.1 (run_tutorref01_Apart K0 n).2.2.2.2.2.2 K0, s_tutorref01_Apart_9 (run_tutorref01_Apart K0 n).1 (run_tutorref01_Apart K0 n).2.1 (run_tutorref01_Apart K0 n).2.2.1 (run_tutorref01_Apart K0 n).2.2.2.1 (run_tutorref01_Apart K0 n).2.2.2.2.1 (run_tutorref01_Apart K0 n).2.2.2.2.2.1 (run_tutorref01_Apart K0 n).2.2.2.2.2.2 K0, s_tutorref01_Apart_13a (run_tutorref01_Apart K0 n).1 (run_tutorref01_Apart K0 n).2.1 (run_tutorref01_Apart K0 n).2.2.1 (run_tutorref01_Apart K0 n).2.2.2.1 (run_tutorref01_Apart K0 n).2.2.2.2.1 (run_tutorref01_Apart K0 n).2.2.2.2.2.1 (run_tutorref01_Apart K0 n).2.2.2.2.2.2 K0, s_tutorref01_Apart_17 (run_tutorref01_Apart K0 n).1 (run_tutorref01_Apart K0 n).2.1 (run_tutorref01_Apart K0 n).2.2.1 (run_tutorref01_Apart K0 n).2.2.2.1 (run_tutorref01_Apart K0 n).2.2.2.2.1 (run_tutorref01_Apart K0 n).2.2.2.2.2.1 (run_tutorref01_Apart K0 n).2.2.2.2.2.2 K0, s_tutorref01_Apart_13b (run_tutorref01_Apart K0 n).1 (run_tutorref01_Apart K0 n).2.1 (run_tutorref01_Apart K0 n).2.2.1 (run_tutorref01_Apart K0 n).2.2.2.1 (run_tutorref01_Apart K0 n).2.2.2.2.1 (run_tutorref01_Apart K0 n).2.2.2.2.2.1 (run_tutorref01_Apart K0 n).2.2.2.2.2.2 K0, s_tutorref01_Apart_20 (run_tutorref01_Apart K0 n).1 (run_tutorref01_Apart K0 n).2.1 (run_tutorref01_Apart K0 n).2.2.1 (run_tutorref01_Apart K0 n).2.2.2.1 (run_tutorref01_Apart K0 n).2.2.2.2.1 (run_tutorref01_Apart K0 n).2.2.2.2.2.1 (run_tutorref01_Apart K0 n).2.2.2.2.2.2 K0)

/-- Each row written full with a mark of its own, from a row on. -/
def markF (i : Nat) (o : List (List Int)) : List (List Int) := o.mapIdx fun j x => if i ≤ j then List.replicate x.length (-1000 - (j : Int)) else x

theorem markF_len (i : Nat) (o : List (List Int)) : (markF i o).length = o.length := by simp [markF]
theorem markF_get {i j : Nat} {o : List (List Int)} (h : j < o.length) : (markF i o).getD j [] = if i ≤ j then List.replicate (o.getD j []).length (-1000 - (j : Int)) else o.getD j [] := by
  unfold markF
  rw [getD_of [] (by simpa using h), List.getElem_mapIdx, getD_of [] h]

theorem rows_ext {o p : List (List Int)} (hl : o.length = p.length) (h : ∀ j, j < o.length → o.getD j [] = p.getD j []) : o = p := by
  refine List.ext_getElem hl fun j h1 h2 => ?_
  have := h j h1
  rwa [getD_of [] h1, getD_of [] h2] at this

theorem getD_setL (l : List (List Int)) (i t : Nat) (x : List Int) : (l.set i x).getD t [] = if i = t ∧ i < l.length then x else l.getD t [] := by
  rw [List.getD_eq_getElem?_getD, List.getElem?_set, List.getD_eq_getElem?_getD]
  by_cases h : i = t
  · subst h
    by_cases h2 : i < l.length
    · simp [h2]
    · simp [h2]
  · simp [h]

def apOk (o : List (List Int)) : Prop := short o ∧ ∀ x ∈ o, x.length ≤ 17592186044400
instance (o : List (List Int)) : Decidable (apOk o) := by unfold apOk; infer_instance

theorem apOk_set {o : List (List Int)} {i : Nat} {x : List Int} (h : apOk o) (hx : x.length ≤ 17592186044400) : apOk (o.set i x) := by
  refine ⟨by have := h.1; unfold short at *; simpa using this, fun y hy => ?_⟩
  rcases List.mem_or_eq_of_mem_set hy with h1 | rfl
  · exact h.2 y h1
  · exact hx

theorem apOk_row {o : List (List Int)} (h : apOk o) {j : Nat} (hj : j < o.length) : (o.getD j []).length ≤ 17592186044400 := by
  rw [getD_of [] hj]
  exact h.2 _ (List.getElem_mem hj)

def l_tutorref01_Apart {R : Type} (o0 : List (List Int)) (K0 : Bool → (List (List Int)) → Option R) : Option R := bi (decide (apOk o0)) (K0 true (markF 0 o0)) none

section
variable {R : Type} (K0 : Bool → (List (List Int)) → Option R) {v : Option R}

theorem ap_in {o : List (List Int)} {i : Nat} (hi : i < o.length) : ∀ (e k : Nat) (o' : List (List Int)), o'.length = o.length → apOk o' → k + e = (o'.getD i []).length →
    Reach (fun m => (run_tutorref01_Apart K0 m).1 ((i : Int) + 1) (o'.set i ((o'.getD i []).take k ++ List.replicate e (-1000 - (i : Int))))) v → Reach (fun m => (run_tutorref01_Apart K0 m).2.1 (i : Int) (k : Int) o') v := by
  intro e
  induction e with
  | zero =>
    intro k o' hl hok hk h
    have hs : o'.length < 4611686018427387904 := hok.1
    refine .step (fun m => ?_) h
    dsimp only [run_tutorref01_Apart]
    unfold s_tutorref01_Apart_5
    have e1 : o'.set i ((o'.getD i []).take k ++ List.replicate 0 (-1000 - (i : Int))) = o' := by
      refine rows_ext (by simp) fun j hj => ?_
      rw [getD_setL]
      split
      · rename_i hc
        rw [← hc.1, List.take_of_length_le (by omega)]
        simp
      · rfl
    rw [e1, br_pos (by omega), Int.toNat_natCast, br_neg (by omega), wr _ (by omega) (by omega)]
  | succ e ih =>
    intro k o' hl hok hk h
    have hs : o'.length < 4611686018427387904 := hok.1
    have hr := apOk_row hok (show i < o'.length by omega)
    refine .step (fun m => ?_) (ih (k + 1) (o'.set i ((o'.getD i []).set k (-1000 - (i : Int)))) (by simpa using hl) (apOk_set hok (by simpa using hr)) ?_ ?_)
    · dsimp only [run_tutorref01_Apart]
      unfold s_tutorref01_Apart_5
      rw [br_pos (by omega), Int.toNat_natCast, br_pos (by omega), br_pos (by omega), br_pos (by omega), wr _ (by omega) (by omega), wr _ (by omega) (by omega), Int.toNat_natCast]
      rfl
    · rw [getD_setL, if_pos ⟨rfl, by omega⟩, List.length_set]
      omega
    · rw [getD_setL, if_pos ⟨rfl, by omega⟩, List.set_set]
      have e2 : ((o'.getD i []).set k (-1000 - (i : Int))).take (k + 1) ++ List.replicate e (-1000 - (i : Int)) = (o'.getD i []).take k ++ List.replicate (e + 1) (-1000 - (i : Int)) := by
        have hk2 : k < (o'.getD i []).length := by omega
        rw [List.replicate_succ, List.take_add_one, List.take_set_of_le (Nat.le_refl k), List.append_assoc]
        congr 1
        have e3 : ((o'.getD i []).set k (-1000 - (i : Int)))[k]? = some (-1000 - (i : Int)) := by rw [List.getElem?_set, if_pos rfl, if_pos hk2]
        rw [e3]
        rfl
      rw [e2]
      exact h

theorem ap_mark : ∀ (d i : Nat) (o : List (List Int)), i + d = o.length → apOk o → Reach (fun m => (run_tutorref01_Apart K0 m).2.2.1 0 (markF i o)) v → Reach (fun m => (run_tutorref01_Apart K0 m).1 (i : Int) o) v := by
  intro d
  induction d with
  | zero =>
    intro i o hi hok h
    have hs : o.length < 4611686018427387904 := hok.1
    refine .step (fun m => ?_) h
    dsimp only [run_tutorref01_Apart]
    unfold s_tutorref01_Apart_2
    have e1 : markF i o = o := by
      refine rows_ext (markF_len i o) fun j hj => ?_
      rw [markF_len] at hj
      rw [markF_get hj, if_neg (by omega)]
    rw [br_neg (by omega), e1]
  | succ d ih =>
    intro i o hi hok h
    have hs : o.length < 4611686018427387904 := hok.1
    have hio : i < o.length := by omega
    have hr := apOk_row hok hio
    refine .step (fun m => ?_) (ap_in K0 hio (o.getD i []).length 0 o rfl hok (by omega) ?_)
    · dsimp only [run_tutorref01_Apart]
      unfold s_tutorref01_Apart_2
      rw [br_pos (by omega)]
      rfl
    · have e1 : (o.getD i []).take 0 ++ List.replicate (o.getD i []).length (-1000 - (i : Int)) = List.replicate (o.getD i []).length (-1000 - (i : Int)) := rfl
      rw [e1]
      have := ih (i + 1) (o.set i (List.replicate (o.getD i []).length (-1000 - (i : Int)))) (by simp; omega) (apOk_set hok (by simpa using hr)) ?_
      · exact this
      · have e2 : markF (i + 1) (o.set i (List.replicate (o.getD i []).length (-1000 - (i : Int)))) = markF i o := by
          refine rows_ext (by simp [markF_len]) fun j hj => ?_
          rw [markF_len, List.length_set] at hj
          rw [markF_get (by simpa using hj), markF_get hj, getD_setL]
          by_cases c1 : i = j
          · subst c1
            rw [if_neg (by omega), if_pos ⟨rfl, hio⟩, if_pos (Nat.le_refl _)]
          · rw [if_neg (show ¬ (i = j ∧ i < o.length) from fun h => c1 h.1)]
            by_cases c2 : i ≤ j
            · rw [if_pos c2, if_pos (by omega)]
            · rw [if_neg c2, if_neg (by omega)]
        rw [e2]
        exact h

theorem ap_grow {o : List (List Int)} {i : Nat} (hi : i < o.length) (hok : apOk o) : ∀ (e k n : Nat), k + e = 6 → n ≤ 17592186044400 + k → 1 ≤ k → Reach (fun m => (run_tutorref01_Apart K0 m).2.2.1 ((i : Int) + 1) o) v →
    Reach (fun m => (run_tutorref01_Apart K0 m).2.2.2.2.2.1 (i : Int) (k : Int) o i n) v := by
  intro e
  have hs : o.length < 4611686018427387904 := hok.1
  induction e with
  | zero =>
    intro k n hk hn h1 h
    refine .step (fun m => ?_) h
    dsimp only [run_tutorref01_Apart]
    unfold s_tutorref01_Apart_13b
    rw [br_neg (by omega), wr _ (by omega) (by omega)]
  | succ e ih =>
    intro k n hk hn h1 h
    refine .step (fun m => ?_) (ih (k + 1) (n + 1) (by omega) (by omega) (by omega) h)
    dsimp only [run_tutorref01_Apart]
    unfold s_tutorref01_Apart_13b
    rw [br_pos (by omega), List.length_singleton, br_pos (by simp [lim]; omega), wr _ (by omega) (by omega)]
    rfl

theorem ap_ext {o : List (List Int)} (hok : apOk o) : ∀ (d i : Nat), i + d = o.length → Reach (fun m => (run_tutorref01_Apart K0 m).2.2.2.2.1 0 o) v → Reach (fun m => (run_tutorref01_Apart K0 m).2.2.1 (i : Int) o) v := by
  intro d
  have hs : o.length < 4611686018427387904 := hok.1
  induction d with
  | zero =>
    intro i hi h
    refine .step (fun m => ?_) h
    dsimp only [run_tutorref01_Apart]
    unfold s_tutorref01_Apart_9
    rw [br_neg (by omega)]
  | succ d ih =>
    intro i hi h
    have hr := apOk_row hok (show i < o.length by omega)
    have h2 := ih (i + 1) (by omega) h
    refine .step (G := fun m => (run_tutorref01_Apart K0 m).2.2.2.1 (i : Int) i 0 o) (fun m => ?_) (.step (fun m => ?_) (ap_grow K0 (show i < o.length by omega) hok 5 1 ((o.getD i []).length + 1) (by omega) (by omega) (by omega) h2))
    · dsimp only [run_tutorref01_Apart]
      unfold s_tutorref01_Apart_9
      rw [br_pos (by omega), br_pos (by omega), Int.toNat_natCast]
    · dsimp only [run_tutorref01_Apart]
      unfold s_tutorref01_Apart_13a
      rw [br_pos (by omega), List.length_singleton, br_pos (by show ((o.getD i []).length + 1) * 8 ≤ 140737488355328; omega), wr _ (by omega) (by omega)]
      rfl

theorem ap_row {o : List (List Int)} (hok : apOk o) {i : Nat} (hi : i < o.length) (hm : ∀ x ∈ o.getD i [], x = -1000 - (i : Int)) : ∀ (e k : Nat), k + e = (o.getD i []).length → Reach (fun m => (run_tutorref01_Apart K0 m).2.2.2.2.1 ((i : Int) + 1) o) v →
    Reach (fun m => (run_tutorref01_Apart K0 m).2.2.2.2.2.2 (i : Int) (k : Int) o) v := by
  intro e
  have hs : o.length < 4611686018427387904 := hok.1
  have hr := apOk_row hok hi
  induction e with
  | zero =>
    intro k hk h
    refine .step (fun m => ?_) h
    dsimp only [run_tutorref01_Apart]
    unfold s_tutorref01_Apart_20
    rw [br_pos (by omega), Int.toNat_natCast, br_neg (by omega), wr _ (by omega) (by omega)]
  | succ e ih =>
    intro k hk h
    refine .step (fun m => ?_) (ih (k + 1) (by omega) h)
    dsimp only [run_tutorref01_Apart]
    unfold s_tutorref01_Apart_20
    have hx : (o.getD i []).getD k 0 = -1000 - (i : Int) := by
      rw [getD_of 0 (by omega)]
      exact hm _ (List.getElem_mem _)
    rw [br_pos (by omega), Int.toNat_natCast, br_pos (by omega), br_pos (by omega), br_pos (by omega), Int.toNat_natCast, hx, wr (-1000 - (i : Int)) (by omega) (by omega), br_ne' rfl, wr _ (by omega) (by omega)]
    rfl

theorem ap_look {o : List (List Int)} (hok : apOk o) (hm : ∀ i, i < o.length → ∀ x ∈ o.getD i [], x = -1000 - (i : Int)) : ∀ (d i : Nat), i + d = o.length → Reach (fun m => (run_tutorref01_Apart K0 m).2.2.2.2.1 (i : Int) o) (K0 true o) := by
  intro d
  have hs : o.length < 4611686018427387904 := hok.1
  induction d with
  | zero =>
    intro i hi
    refine .now fun m => ?_
    dsimp only [run_tutorref01_Apart]
    unfold s_tutorref01_Apart_17
    rw [br_neg (by omega)]
  | succ d ih =>
    intro i hi
    refine .step (fun m => ?_) (ap_row K0 hok (show i < o.length by omega) (hm i (by omega)) (o.getD i []).length 0 (by omega) (ih (i + 1) (by omega)))
    dsimp only [run_tutorref01_Apart]
    unfold s_tutorref01_Apart_17
    rw [br_pos (by omega)]
    rfl
end

theorem ok_tutorref01_Apart {R : Type} (o0 : List (List Int)) (K0 : Bool → (List (List Int)) → Option R) {r : R} (h : l_tutorref01_Apart o0 K0 = some r) : ∃ fuel, e_tutorref01_Apart (run_tutorref01_Apart K0 fuel).1 (run_tutorref01_Apart K0 fuel).2.1 (run_tutorref01_Apart K0 fuel).2.2.1 (run_tutorref01_Apart K0 fuel).2.2.2.1 (run_tutorref01_Apart K0 fuel).2.2.2.2.1 (run_tutorref01_Apart K0 fuel).2.2.2.2.2.1 (run_tutorref01_Apart K0 fuel).2.2.2.2.2.2 K0 o0 = some r := by
  unfold l_tutorref01_Apart at h
  rcases bi_some h with ⟨hs, h⟩ | ⟨_, h⟩
  · have hok : apOk o0 := of_decide_eq_true hs
    rw [← h]
    unfold e_tutorref01_Apart
    have hok2 : apOk (markF 0 o0) := by
      refine ⟨by unfold short; rw [markF_len]; exact hok.1, fun x hx => ?_⟩
      obtain ⟨j, hj, rfl⟩ := List.getElem_of_mem hx
      rw [markF_len] at hj
      rw [← getD_of [] (by rw [markF_len]; exact hj), markF_get hj, if_pos (Nat.zero_le _), List.length_replicate]
      exact apOk_row hok hj
    have hm : ∀ i, i < (markF 0 o0).length → ∀ x ∈ (markF 0 o0).getD i [], x = -1000 - (i : Int) := by
      intro i hi x hx
      rw [markF_len] at hi
      rw [markF_get hi, if_pos (Nat.zero_le _)] at hx
      exact List.eq_of_mem_replicate hx
    exact (ap_mark K0 o0.length 0 o0 (by omega) hok (ap_ext K0 hok2 (markF 0 o0).length 0 (by omega) (ap_look K0 hok2 hm (markF 0 o0).length 0 (by omega)))).get
  · cases h

theorem apart_eq {R : Type} {o0 : List (List Int)} (h : apOk o0) (K0 : Bool → (List (List Int)) → Option R) : l_tutorref01_Apart o0 K0 = K0 true (markF 0 o0) := by
  unfold l_tutorref01_Apart
  rw [br_pos h]

/-- tutor/tutorref03.Same -/
def l_tutorref03_Same {R : Type} (a : Int) (a_1 : Int) (a_2 : Int) (a_3 : Int) (a_4 : List Int) (a_5 : List Int) (b : Int) (b_1 : Int) (b_2 : Int) (b_3 : Int) (b_4 : List Int) (b_5 : List Int) (K0 : Bool → Option R) : Option R :=
  bi (a == b)
   (bi (a_1 == b_1)
    (bi (a_2 == b_2)
     (bi (a_3 == b_3)
      (l_tutorref01_Same a_4 b_4
       (fun r1 =>
        bi r1
         (l_tutorref01_Same a_5 b_5
          (fun r2 =>
           K0 r2))
         (K0 false)))
      (K0 false))
     (K0 false))
    (K0 false))
   (K0 false)

theorem sameM_eq {R : Type} {k K O N : Int} {nx ou : List Int} (h1 : short nx) (h2 : short ou) (K0 : Bool → Option R) :
    l_tutorref03_Same k K O N nx ou k K O N nx ou K0 = K0 true := by
  unfold l_tutorref03_Same
  rw [br_eq rfl, br_eq rfl, br_eq rfl, br_eq rfl, same_eq h1]
  try dsimp only
  rw [br_pos rfl, same_eq h2]
  simp

/-- tutor/tutorlaw03.MachineOwn -/
def l_tutorlaw03_MachineOwn {R : Type} (m : Int) (m_1 : Int) (m_2 : Int) (m_3 : Int) (m_4 : List Int) (m_5 : List Int) (w : List Int) (K0 : Bool → Option R) : Option R :=
  l_tutorref03_Big m m_1 m_2 m_3 m_4 m_5 1099511627776
   (fun r1 =>
    bi r1
     (l_tutorlaw03_live
      (fun r2 =>
       K0 r2))
     (bi (decide ((w.length : Int) > 2000))
      (l_tutorlaw03_live
       (fun r3 =>
        K0 r3))
      (l_tutorref03_Copy m m_1 m_2 m_3 m_4 m_5
       (fun r4 r5 r6 r7 r8 r9 =>
        l_machine_Run r4 r5 r6 r7 r8 r9 w
         (fun r10 r11 =>
          l_machine_From r4 r5 r6 r7 r8 r9 0 w
           (fun r12 r13 r14 =>
            l_tutorref01_Apart [r11, r14]
             (fun r15 r16 =>
              bi (!r15)
               (K0 false)
               (l_tutorref03_Same r4 r5 r6 r7 r8 r9 m m_1 m_2 m_3 m_4 m_5
                (fun r17 =>
                 bi r17
                  (l_tutorlaw03_live
                   (fun r18 =>
                    K0 r18))
                  (K0 false))))))))))

theorem law_tutorlaw03_MachineOwn {R : Type} (k K O N : Int) (nx ou : List Int) (w : List Int) (K0 : Bool → Option R) (hk : inI k) (hK : inI K) (hO : inI O) (hN : inI N) (hn : okW nx) (ho : okW ou) (hw : okW w) :
    l_tutorlaw03_MachineOwn k K O N nx ou w K0 = K0 true := by
  unfold l_tutorlaw03_MachineOwn
  rcases big_cases k K O N nx ou 1099511627776 _ with h | ⟨_, h1, h2, h⟩
  · rw [h, br_tt, live03]
  · rw [h, br_ff]
    have o1 : okL nx := hn.okL (by unfold short; omega)
    have o2 : okL ou := ho.okL (by unfold short; omega)
    by_cases hl : (w.length : Int) > 2000
    · rw [br_pos hl, live03]
    · rw [br_neg hl, copy_eq (by omega) (by omega)]
      unfold l_machine_Run
      rw [from_eq o1 o2]
      try dsimp only
      rw [from_eq o1 o2]
      try dsimp only
      have hs := @from_short k K O N nx ou 0 w
      rw [apart_eq ⟨by unfold short; simp, fun x hx => by
        rcases List.mem_cons.1 hx with rfl | hx
        · omega
        · rw [List.mem_singleton.1 hx]
          omega⟩]
      try dsimp only
      rw [Bool.not_true, br_ff, sameM_eq o1.1 o2.1, br_tt, live03]

end
end Go.Ev
