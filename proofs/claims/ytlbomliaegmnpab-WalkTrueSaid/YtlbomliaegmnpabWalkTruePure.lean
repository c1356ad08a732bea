/- Functions of the program, as trees of tests over numbers and lists; no program in sight. -/
import Derived.Test.YtlbomliaegmnpabEvTrip
namespace Go.Ev
noncomputable section
set_option linter.unusedVariables false
set_option linter.unusedSimpArgs false
set_option maxRecDepth 100000
set_option maxHeartbeats 4000000

/-- tutor/tutorref03.Big -/
def l_tutorref03_Big {R : Type} (m : Int) (m_1 : Int) (m_2 : Int) (m_3 : Int) (m_4 : List Int) (m_5 : List Int) (states : Int) (K0 : Bool → Option R) : Option R :=
  bi (decide (m_3 > states))
   (K0 true)
   (bi (decide ((m_4.length : Int) > 70000))
    (K0 true)
    (K0 (decide ((m_5.length : Int) > 70000))))

theorem big_cases {R : Type} (k K O N : Int) (nx ou : List Int) (states : Int) (K0 : Bool → Option R) :
    (l_tutorref03_Big k K O N nx ou states K0 = K0 true) ∨ (N ≤ states ∧ nx.length ≤ 70000 ∧ ou.length ≤ 70000 ∧ l_tutorref03_Big k K O N nx ou states K0 = K0 false) := by
  unfold l_tutorref03_Big
  by_cases h1 : N > states
  · exact .inl (by rw [br_pos h1])
  rw [br_neg h1]
  by_cases h2 : (nx.length : Int) > 70000
  · exact .inl (by rw [br_pos h2])
  rw [br_neg h2]
  by_cases h3 : (ou.length : Int) > 70000
  · exact .inl (by rw [decide_eq_true h3])
  · exact .inr ⟨by omega, by omega, by omega, by rw [decide_eq_false h3]⟩

/-- tutor/walk.New -/
def l_walk_New {R : Type} (seed : Int) (K0 : Int → Option R) : Option R :=
  bi (seed == 0)
   (K0 88172645463325252)
   (K0 seed)

theorem new_eq {R : Type} (seed : Int) (K0 : Int → Option R) : l_walk_New seed K0 = K0 (if seed = 0 then 88172645463325252 else seed) := by
  unfold l_walk_New
  by_cases h : seed = 0
  · rw [br_eq h, if_pos h]
  · rw [br_eq' h, if_neg h]

/-- tutor/tutorref21.Int -/
def l_tutorref21_Int {R : Type} (x : Int) (n : Int) (K0 : Int → Int → Option R) : Option R :=
  bi (decide (n < 1))
   (K0 0 x)
   (bi (decide ((IntKind.u64.wrap n) = 0))
    none
    (K0 (IntKind.i64.wrap (((IntKind.u64.wrap ((IntKind.u64.wrap (BitVec.ofInt 64 (IntKind.u64.wrap (BitVec.ofInt 64 (IntKind.u64.wrap (BitVec.ofInt 64 x ^^^ BitVec.ofInt 64 (x.fdiv (2 ^ (min (12 : Int).toNat 64)))).toNat) ^^^ BitVec.ofInt 64 (IntKind.u64.wrap ((IntKind.u64.wrap (BitVec.ofInt 64 x ^^^ BitVec.ofInt 64 (x.fdiv (2 ^ (min (12 : Int).toNat 64)))).toNat) * 2 ^ (min (25 : Int).toNat 64)))).toNat) ^^^ BitVec.ofInt 64 ((IntKind.u64.wrap (BitVec.ofInt 64 (IntKind.u64.wrap (BitVec.ofInt 64 x ^^^ BitVec.ofInt 64 (x.fdiv (2 ^ (min (12 : Int).toNat 64)))).toNat) ^^^ BitVec.ofInt 64 (IntKind.u64.wrap ((IntKind.u64.wrap (BitVec.ofInt 64 x ^^^ BitVec.ofInt 64 (x.fdiv (2 ^ (min (12 : Int).toNat 64)))).toNat) * 2 ^ (min (25 : Int).toNat 64)))).toNat).fdiv (2 ^ (min (27 : Int).toNat 64)))).toNat) * 2685821657736338717)).fdiv (2 ^ (min (33 : Int).toNat 64))).tmod (IntKind.u64.wrap n))) (IntKind.u64.wrap (BitVec.ofInt 64 (IntKind.u64.wrap (BitVec.ofInt 64 (IntKind.u64.wrap (BitVec.ofInt 64 x ^^^ BitVec.ofInt 64 (x.fdiv (2 ^ (min (12 : Int).toNat 64)))).toNat) ^^^ BitVec.ofInt 64 (IntKind.u64.wrap ((IntKind.u64.wrap (BitVec.ofInt 64 x ^^^ BitVec.ofInt 64 (x.fdiv (2 ^ (min (12 : Int).toNat 64)))).toNat) * 2 ^ (min (25 : Int).toNat 64)))).toNat) ^^^ BitVec.ofInt 64 ((IntKind.u64.wrap (BitVec.ofInt 64 (IntKind.u64.wrap (BitVec.ofInt 64 x ^^^ BitVec.ofInt 64 (x.fdiv (2 ^ (min (12 : Int).toNat 64)))).toNat) ^^^ BitVec.ofInt 64 (IntKind.u64.wrap ((IntKind.u64.wrap (BitVec.ofInt 64 x ^^^ BitVec.ofInt 64 (x.fdiv (2 ^ (min (12 : Int).toNat 64)))).toNat) * 2 ^ (min (25 : Int).toNat 64)))).toNat).fdiv (2 ^ (min (27 : Int).toNat 64)))).toNat)))

theorem refInt_eq {R : Type} {n x : Int} (hn : inI n) (K0 : Int → Int → Option R) : l_tutorref21_Int x n K0 = K0 (intS n x).1 (intS n x).2 := by
  obtain ⟨_, h2⟩ := hn
  unfold l_tutorref21_Int intS
  by_cases h : n < 1
  · rw [br_pos h, if_pos h]
  · rw [br_neg h, if_neg h]
    rw [br_neg (by rw [wru, Int.emod_eq_of_lt (by omega) (by omega)]; omega)]
    rfl

/-- (*tutor/walk.source).draw -/
def l_walk_source_draw {R : Type} (o0 : Int) (K0 : Int → Int → Option R) : Option R :=
  K0 ((IntKind.u64.wrap ((IntKind.u64.wrap (BitVec.ofInt 64 (IntKind.u64.wrap (BitVec.ofInt 64 (IntKind.u64.wrap (BitVec.ofInt 64 o0 ^^^ BitVec.ofInt 64 (o0.fdiv (2 ^ (min (12 : Int).toNat 64)))).toNat) ^^^ BitVec.ofInt 64 (IntKind.u64.wrap ((IntKind.u64.wrap (BitVec.ofInt 64 o0 ^^^ BitVec.ofInt 64 (o0.fdiv (2 ^ (min (12 : Int).toNat 64)))).toNat) * 2 ^ (min (25 : Int).toNat 64)))).toNat) ^^^ BitVec.ofInt 64 ((IntKind.u64.wrap (BitVec.ofInt 64 (IntKind.u64.wrap (BitVec.ofInt 64 o0 ^^^ BitVec.ofInt 64 (o0.fdiv (2 ^ (min (12 : Int).toNat 64)))).toNat) ^^^ BitVec.ofInt 64 (IntKind.u64.wrap ((IntKind.u64.wrap (BitVec.ofInt 64 o0 ^^^ BitVec.ofInt 64 (o0.fdiv (2 ^ (min (12 : Int).toNat 64)))).toNat) * 2 ^ (min (25 : Int).toNat 64)))).toNat).fdiv (2 ^ (min (27 : Int).toNat 64)))).toNat) * 2685821657736338717)).fdiv (2 ^ (min (33 : Int).toNat 64))) (IntKind.u64.wrap (BitVec.ofInt 64 (IntKind.u64.wrap (BitVec.ofInt 64 (IntKind.u64.wrap (BitVec.ofInt 64 o0 ^^^ BitVec.ofInt 64 (o0.fdiv (2 ^ (min (12 : Int).toNat 64)))).toNat) ^^^ BitVec.ofInt 64 (IntKind.u64.wrap ((IntKind.u64.wrap (BitVec.ofInt 64 o0 ^^^ BitVec.ofInt 64 (o0.fdiv (2 ^ (min (12 : Int).toNat 64)))).toNat) * 2 ^ (min (25 : Int).toNat 64)))).toNat) ^^^ BitVec.ofInt 64 ((IntKind.u64.wrap (BitVec.ofInt 64 (IntKind.u64.wrap (BitVec.ofInt 64 o0 ^^^ BitVec.ofInt 64 (o0.fdiv (2 ^ (min (12 : Int).toNat 64)))).toNat) ^^^ BitVec.ofInt 64 (IntKind.u64.wrap ((IntKind.u64.wrap (BitVec.ofInt 64 o0 ^^^ BitVec.ofInt 64 (o0.fdiv (2 ^ (min (12 : Int).toNat 64)))).toNat) * 2 ^ (min (25 : Int).toNat 64)))).toNat).fdiv (2 ^ (min (27 : Int).toNat 64)))).toNat)

/-- (*tutor/walk.Walk).Int -/
def l_walk_Walk_Int {R : Type} (n : Int) (o0 : Int) (K0 : Int → Int → Option R) : Option R :=
  bi (decide (n < 1))
   (K0 0 o0)
   (l_walk_source_draw o0
    (fun r1 r2 =>
     bi (decide ((IntKind.u64.wrap n) = 0))
      none
      (K0 (IntKind.i64.wrap (r1.tmod (IntKind.u64.wrap n))) r2)))

theorem walkInt_eq {R : Type} {n x : Int} (hn : inI n) (K0 : Int → Int → Option R) : l_walk_Walk_Int n x K0 = K0 (intS n x).1 (intS n x).2 := by
  obtain ⟨_, h2⟩ := hn
  unfold l_walk_Walk_Int l_walk_source_draw intS
  by_cases h : n < 1
  · rw [br_pos h, if_pos h]
  · rw [br_neg h, if_neg h]
    dsimp only
    rw [br_neg (by rw [wru, Int.emod_eq_of_lt (by omega) (by omega)]; omega)]
    rfl

/-- tutor/tutorlaw21.live -/
def l_tutorlaw21_live {R : Type}  (K0 : Bool → Option R) : Option R :=
  l_walk_New 1
   (fun r1 =>
    l_tutorref21_Int 1 1000
     (fun r2 r3 =>
      l_tutorref21_Int r3 1000
       (fun r4 r5 =>
        l_walk_Walk_Int 1000 r1
         (fun r6 r7 =>
          bi (r6 == r2)
           (l_walk_Walk_Int 1000 r7
            (fun r8 r9 =>
             bi (r8 == r4)
              (K0 (r2 != r4))
              (K0 false)))
           (K0 false)))))

theorem live21 {R : Type} (K0 : Bool → Option R) : l_tutorlaw21_live K0 = K0 true := by
  unfold l_tutorlaw21_live l_walk_New
  rw [br_eq' (by decide)]
  dsimp only
  rw [refInt_eq (by decide)]
  try dsimp only
  rw [refInt_eq (by decide)]
  try dsimp only
  rw [walkInt_eq (by decide)]
  try dsimp only
  rw [br_eq rfl, walkInt_eq (by decide)]
  try dsimp only
  rw [br_eq rfl]
  have e : ((intS 1000 1).1 != (intS 1000 (intS 1000 1).2).1) = true := by kernel_rfl
  rw [e]

/-- tutor/machine.says -/
def l_machine_says {R : Type} (m : Int) (m_1 : Int) (m_2 : Int) (m_3 : Int) (m_4 : List Int) (m_5 : List Int) (K0 : Int → Option R) : Option R :=
  bi (m == 1)
   (K0 m_3)
   (K0 (IntKind.i64.wrap (m_3 * m_1)))

/-- tutor/machine.head -/
def l_machine_head {R : Type} (m : Int) (m_1 : Int) (m_2 : Int) (m_3 : Int) (m_4 : List Int) (m_5 : List Int) (K0 : Int → Option R) : Option R :=
  bi (m != 1)
   (bi (m != 2)
    (K0 30)
    (bi (decide (m_1 < 1))
     (K0 1)
     (bi (decide (m_1 > 64))
      (K0 1)
      (bi (m == 1)
       (bi (m_2 != 2)
        (K0 33)
        (bi (decide (m_2 < 1))
         (K0 33)
         (bi (decide (m_2 > 64))
          (K0 33)
          (bi (decide (m_3 < 1))
           (K0 3)
           (bi (decide (m_3 > 1024))
            (K0 3)
            (bi ((m_4.length : Int) != (IntKind.i64.wrap (m_3 * m_1)))
             (K0 31)
             (l_machine_says m m_1 m_2 m_3 m_4 m_5
              (fun r1 =>
               bi ((m_5.length : Int) != r1)
                (K0 31)
                (K0 0)))))))))
       (bi (decide (m_2 < 1))
        (K0 33)
        (bi (decide (m_2 > 64))
         (K0 33)
         (bi (decide (m_3 < 1))
          (K0 3)
          (bi (decide (m_3 > 1024))
           (K0 3)
           (bi ((m_4.length : Int) != (IntKind.i64.wrap (m_3 * m_1)))
            (K0 31)
            (l_machine_says m m_1 m_2 m_3 m_4 m_5
             (fun r2 =>
              bi ((m_5.length : Int) != r2)
               (K0 31)
               (K0 0))))))))))))
   (bi (decide (m_1 < 1))
    (K0 1)
    (bi (decide (m_1 > 64))
     (K0 1)
     (bi (m == 1)
      (bi (m_2 != 2)
       (K0 33)
       (bi (decide (m_2 < 1))
        (K0 33)
        (bi (decide (m_2 > 64))
         (K0 33)
         (bi (decide (m_3 < 1))
          (K0 3)
          (bi (decide (m_3 > 1024))
           (K0 3)
           (bi ((m_4.length : Int) != (IntKind.i64.wrap (m_3 * m_1)))
            (K0 31)
            (l_machine_says m m_1 m_2 m_3 m_4 m_5
             (fun r3 =>
              bi ((m_5.length : Int) != r3)
               (K0 31)
               (K0 0)))))))))
      (bi (decide (m_2 < 1))
       (K0 33)
       (bi (decide (m_2 > 64))
        (K0 33)
        (bi (decide (m_3 < 1))
         (K0 3)
         (bi (decide (m_3 > 1024))
          (K0 3)
          (bi ((m_4.length : Int) != (IntKind.i64.wrap (m_3 * m_1)))
           (K0 31)
           (l_machine_says m m_1 m_2 m_3 m_4 m_5
            (fun r4 =>
             bi ((m_5.length : Int) != r4)
              (K0 31)
              (K0 0)))))))))))

theorem head_eq {R : Type} (k K O N : Int) (nx ou : List Int) (K0 : Int → Option R) : l_machine_head k K O N nx ou K0 = K0 (headS k K O N nx ou) := by
  unfold l_machine_head l_machine_says headS
  simp only [br_if, bne_iff_ne, beq_iff_eq, decide_eq_true_eq, ne_eq]
  by_cases hb : (1 ≤ N ∧ N ≤ 1024) ∧ 1 ≤ K ∧ K ≤ 64
  · have := mulK hb
    rw [wr (N * K) (by omega) (by omega)]
    repeat' (refine ite_l (fun _ => ?_) (fun _ => ?_))
    all_goals
      refine congrArg K0 ?_
      repeat' (refine ite_r (fun _ => ?_) (fun _ => ?_))
      all_goals omega
  · repeat' (refine ite_l (fun _ => ?_) (fun _ => ?_))
    all_goals
      refine congrArg K0 ?_
      repeat' (refine ite_r (fun _ => ?_) (fun _ => ?_))
      all_goals omega

/-- tutor/machine.beyond -/
def s_machine_beyond_2 {R : Type} (g49_2 : (List Int) → Int → Int → Int → Option R) (K0 : Int → Option R) (l : List Int) (n : Int) (x7 : Int) (x8 : Int) : Option R :=
  bi (decide (x8 < x7))
   (bi (decide (0 ≤ x8 ∧ x8 < ((l.length : Nat) : Int)))
    (bi (decide ((IntKind.u64.wrap (l.getD x8.toNat 0)) ≥ (IntKind.u64.wrap n)))
     (K0 x8)
     (g49_2 l n x7 (IntKind.i64.wrap (x8 + 1))))
    none)
   (K0 (-1))

/-- tutor/machine.beyond -/
def e_machine_beyond {R : Type} (g49_2 : (List Int) → Int → Int → Int → Option R) (K0 : Int → Option R) (l : List Int) (n : Int) : Option R :=
  g49_2 l n (l.length : Int) 0

def run_machine_beyond {R : Type} (K0 : Int → Option R) : Nat → (List Int) → Int → Int → Int → Option R
  | 0 => fun _ _ _ _ => none
  | n + 1 => s_machine_beyond_2 (run_machine_beyond K0 n) K0

def l_machine_beyond {R : Type} (l : List Int) (n : Int) (K0 : Int → Option R) : Option R := bi (decide (short l)) (K0 (beyondS n l)) none

theorem ok_machine_beyond {R : Type} (l : List Int) (n : Int) (K0 : Int → Option R) {r : R} (h : l_machine_beyond l n K0 = some r) : ∃ fuel, e_machine_beyond (run_machine_beyond K0 fuel) K0 l n = some r := by
  unfold l_machine_beyond at h
  rcases bi_some h with ⟨hs, h⟩ | ⟨_, h⟩
  · have hs : l.length < 4611686018427387904 := of_decide_eq_true hs
    refine ⟨l.length + 1, ?_⟩
    rw [← h]
    have key := scan_all (F := fun m i => run_machine_beyond K0 m l n (l.length : Int) (i : Int)) (bad n) (l := l) (A := fun i => K0 i) (B := K0 (-1))
      (fun m => by
        show s_machine_beyond_2 _ _ _ _ _ _ = _
        unfold s_machine_beyond_2
        rw [br_neg (by omega)])
      (fun m i hi => by
        show s_machine_beyond_2 _ _ _ _ _ _ = _
        unfold s_machine_beyond_2
        rw [br_pos (by omega), br_pos (by omega), br_if, Int.toNat_natCast, getD_of 0 hi, wr _ (by omega) (by omega)]
        rfl)
    unfold e_machine_beyond beyondS
    refine key.trans ?_
    cases findP (bad n) l <;> rfl
  · cases h

/-- tutor/machine.Check -/
def l_machine_Check {R : Type} (m : Int) (m_1 : Int) (m_2 : Int) (m_3 : Int) (m_4 : List Int) (m_5 : List Int) (K0 : Int → Int → Option R) : Option R :=
  l_machine_head m m_1 m_2 m_3 m_4 m_5
   (fun r1 =>
    bi (r1 != 0)
     (K0 0 r1)
     (l_machine_beyond m_4 m_3
      (fun r2 =>
       bi (decide (r2 ≥ 0))
        (K0 r2 32)
        (l_machine_beyond m_5 m_2
         (fun r3 =>
          bi (decide (r3 ≥ 0))
           (K0 r3 33)
           (K0 0 0))))))

theorem check_eq {R : Type} (k K O N : Int) (nx ou : List Int) (h1 : short nx) (h2 : short ou) (K0 : Int → Int → Option R) :
    l_machine_Check k K O N nx ou K0 = K0 (checkS k K O N nx ou).1 (checkS k K O N nx ou).2 := by
  unfold l_machine_Check checkS l_machine_beyond beyondS
  rw [head_eq]
  by_cases h : headS k K O N nx ou = 0
  · rw [br_ne' h, if_neg (by simpa using h), br_pos h1]
    cases hf : findP (bad N) nx with
    | some i => simp only [br_pos (show ((i : Nat) : Int) ≥ 0 by omega)]
    | none =>
      simp only [br_neg (show ¬ ((-1 : Int) ≥ 0) by omega), br_pos h2]
      cases hg : findP (bad O) ou with
      | some i => simp only [br_pos (show ((i : Nat) : Int) ≥ 0 by omega)]
      | none => simp only [br_neg (show ¬ ((-1 : Int) ≥ 0) by omega)]
  · rw [br_ne h, if_pos (by simpa using h)]

/-- tutor/walk.Stroll -/
def s_walk_Stroll_14 {R : Type} (g16_14 : Int → Int → Int → Int → Int → Int → Int → Int → (List Int) → (List Int) → (List (List Int)) → (List Int) → (List Int) → Int → (List (List Int)) → (List Int) → (List Int) → (List Int) → Option R) (K0 : Int → (List (List Int)) → (List Int) → (List Int) → Option R) (stop : Int) (s : Int) (x54 : Int) (x55 : Int) (o0 : Int) (o0_1 : Int) (o0_2 : Int) (o0_3 : Int) (o0_4 : List Int) (o0_5 : List Int) (o2 : List (List Int)) (o3 : List Int) (o4 : List Int) (o5 : Int) (o7 : List (List Int)) (o8 : List Int) (o9 : List Int) (o10 : List Int) : Option R :=
  bi (decide (x55 < x54))
   (l_walk_Walk_Int stop o5
    (fun r4 r5 =>
     bi (r4 == 0)
      (bi (decide ((o7.length + [o10].length) * 24 ≤ lim))
       (bi (decide (0 ≤ (0 : Int) ∧ (0 : Int) < ((o8.length : Nat) : Int)))
        (bi (decide (0 ≤ (0 : Int) ∧ (0 : Int) < ((o8.length : Nat) : Int)))
         (l_walk_Walk_Int o0_1 r5
          (fun r6 r7 =>
           bi (decide ((([] : List Int).length + [r6].length) * 8 ≤ lim))
            (bi (decide (0 ≤ (IntKind.i64.wrap ((IntKind.i64.wrap (0 * o0_1)) + r6)) ∧ (IntKind.i64.wrap ((IntKind.i64.wrap (0 * o0_1)) + r6)) < ((o9.length : Nat) : Int)))
             (bi (decide (0 ≤ (IntKind.i64.wrap ((IntKind.i64.wrap (0 * o0_1)) + r6)) ∧ (IntKind.i64.wrap ((IntKind.i64.wrap (0 * o0_1)) + r6)) < ((o9.length : Nat) : Int)))
              (bi (decide (0 ≤ (IntKind.i64.wrap ((IntKind.i64.wrap (0 * o0_1)) + r6)) ∧ (IntKind.i64.wrap ((IntKind.i64.wrap (0 * o0_1)) + r6)) < ((o0_4.length : Nat) : Int)))
               (bi (decide (0 ≤ (o0_4.getD ((IntKind.i64.wrap ((IntKind.i64.wrap (0 * o0_1)) + r6)).toNat) 0) ∧ (o0_4.getD ((IntKind.i64.wrap ((IntKind.i64.wrap (0 * o0_1)) + r6)).toNat) 0) < (((o8.set 0 (IntKind.i64.wrap ((o8.getD 0 0) + 1))).length : Nat) : Int)))
                (bi (decide (0 ≤ (o0_4.getD ((IntKind.i64.wrap ((IntKind.i64.wrap (0 * o0_1)) + r6)).toNat) 0) ∧ (o0_4.getD ((IntKind.i64.wrap ((IntKind.i64.wrap (0 * o0_1)) + r6)).toNat) 0) < (((o8.set 0 (IntKind.i64.wrap ((o8.getD 0 0) + 1))).length : Nat) : Int)))
                 (g16_14 stop (o0_4.getD ((IntKind.i64.wrap ((IntKind.i64.wrap (0 * o0_1)) + r6)).toNat) 0) x54 (IntKind.i64.wrap (x55 + 1)) o0 o0_1 o0_2 o0_3 o0_4 o0_5 o2 o3 o4 r7 (o7 ++ [o10]) ((o8.set 0 (IntKind.i64.wrap ((o8.getD 0 0) + 1))).set ((o0_4.getD ((IntKind.i64.wrap ((IntKind.i64.wrap (0 * o0_1)) + r6)).toNat) 0).toNat) (IntKind.i64.wrap (((o8.set 0 (IntKind.i64.wrap ((o8.getD 0 0) + 1))).getD ((o0_4.getD ((IntKind.i64.wrap ((IntKind.i64.wrap (0 * o0_1)) + r6)).toNat) 0).toNat) 0) + 1))) (o9.set ((IntKind.i64.wrap ((IntKind.i64.wrap (0 * o0_1)) + r6)).toNat) (IntKind.i64.wrap ((o9.getD ((IntKind.i64.wrap ((IntKind.i64.wrap (0 * o0_1)) + r6)).toNat) 0) + 1))) (([] : List Int) ++ [r6]))
                 none)
                none)
               none)
              none)
             none)
            none))
         none)
        none)
       none)
      (bi ((o10.length : Int) == 4096)
       (bi (decide ((o7.length + [o10].length) * 24 ≤ lim))
        (bi (decide (0 ≤ (0 : Int) ∧ (0 : Int) < ((o8.length : Nat) : Int)))
         (bi (decide (0 ≤ (0 : Int) ∧ (0 : Int) < ((o8.length : Nat) : Int)))
          (l_walk_Walk_Int o0_1 r5
           (fun r8 r9 =>
            bi (decide ((([] : List Int).length + [r8].length) * 8 ≤ lim))
             (bi (decide (0 ≤ (IntKind.i64.wrap ((IntKind.i64.wrap (0 * o0_1)) + r8)) ∧ (IntKind.i64.wrap ((IntKind.i64.wrap (0 * o0_1)) + r8)) < ((o9.length : Nat) : Int)))
              (bi (decide (0 ≤ (IntKind.i64.wrap ((IntKind.i64.wrap (0 * o0_1)) + r8)) ∧ (IntKind.i64.wrap ((IntKind.i64.wrap (0 * o0_1)) + r8)) < ((o9.length : Nat) : Int)))
               (bi (decide (0 ≤ (IntKind.i64.wrap ((IntKind.i64.wrap (0 * o0_1)) + r8)) ∧ (IntKind.i64.wrap ((IntKind.i64.wrap (0 * o0_1)) + r8)) < ((o0_4.length : Nat) : Int)))
                (bi (decide (0 ≤ (o0_4.getD ((IntKind.i64.wrap ((IntKind.i64.wrap (0 * o0_1)) + r8)).toNat) 0) ∧ (o0_4.getD ((IntKind.i64.wrap ((IntKind.i64.wrap (0 * o0_1)) + r8)).toNat) 0) < (((o8.set 0 (IntKind.i64.wrap ((o8.getD 0 0) + 1))).length : Nat) : Int)))
                 (bi (decide (0 ≤ (o0_4.getD ((IntKind.i64.wrap ((IntKind.i64.wrap (0 * o0_1)) + r8)).toNat) 0) ∧ (o0_4.getD ((IntKind.i64.wrap ((IntKind.i64.wrap (0 * o0_1)) + r8)).toNat) 0) < (((o8.set 0 (IntKind.i64.wrap ((o8.getD 0 0) + 1))).length : Nat) : Int)))
                  (g16_14 stop (o0_4.getD ((IntKind.i64.wrap ((IntKind.i64.wrap (0 * o0_1)) + r8)).toNat) 0) x54 (IntKind.i64.wrap (x55 + 1)) o0 o0_1 o0_2 o0_3 o0_4 o0_5 o2 o3 o4 r9 (o7 ++ [o10]) ((o8.set 0 (IntKind.i64.wrap ((o8.getD 0 0) + 1))).set ((o0_4.getD ((IntKind.i64.wrap ((IntKind.i64.wrap (0 * o0_1)) + r8)).toNat) 0).toNat) (IntKind.i64.wrap (((o8.set 0 (IntKind.i64.wrap ((o8.getD 0 0) + 1))).getD ((o0_4.getD ((IntKind.i64.wrap ((IntKind.i64.wrap (0 * o0_1)) + r8)).toNat) 0).toNat) 0) + 1))) (o9.set ((IntKind.i64.wrap ((IntKind.i64.wrap (0 * o0_1)) + r8)).toNat) (IntKind.i64.wrap ((o9.getD ((IntKind.i64.wrap ((IntKind.i64.wrap (0 * o0_1)) + r8)).toNat) 0) + 1))) (([] : List Int) ++ [r8]))
                  none)
                 none)
                none)
               none)
              none)
             none))
          none)
         none)
        none)
       (l_walk_Walk_Int o0_1 r5
        (fun r10 r11 =>
         bi (decide ((o10.length + [r10].length) * 8 ≤ lim))
          (bi (decide (0 ≤ (IntKind.i64.wrap ((IntKind.i64.wrap (s * o0_1)) + r10)) ∧ (IntKind.i64.wrap ((IntKind.i64.wrap (s * o0_1)) + r10)) < ((o9.length : Nat) : Int)))
           (bi (decide (0 ≤ (IntKind.i64.wrap ((IntKind.i64.wrap (s * o0_1)) + r10)) ∧ (IntKind.i64.wrap ((IntKind.i64.wrap (s * o0_1)) + r10)) < ((o9.length : Nat) : Int)))
            (bi (decide (0 ≤ (IntKind.i64.wrap ((IntKind.i64.wrap (s * o0_1)) + r10)) ∧ (IntKind.i64.wrap ((IntKind.i64.wrap (s * o0_1)) + r10)) < ((o0_4.length : Nat) : Int)))
             (bi (decide (0 ≤ (o0_4.getD ((IntKind.i64.wrap ((IntKind.i64.wrap (s * o0_1)) + r10)).toNat) 0) ∧ (o0_4.getD ((IntKind.i64.wrap ((IntKind.i64.wrap (s * o0_1)) + r10)).toNat) 0) < ((o8.length : Nat) : Int)))
              (bi (decide (0 ≤ (o0_4.getD ((IntKind.i64.wrap ((IntKind.i64.wrap (s * o0_1)) + r10)).toNat) 0) ∧ (o0_4.getD ((IntKind.i64.wrap ((IntKind.i64.wrap (s * o0_1)) + r10)).toNat) 0) < ((o8.length : Nat) : Int)))
               (g16_14 stop (o0_4.getD ((IntKind.i64.wrap ((IntKind.i64.wrap (s * o0_1)) + r10)).toNat) 0) x54 (IntKind.i64.wrap (x55 + 1)) o0 o0_1 o0_2 o0_3 o0_4 o0_5 o2 o3 o4 r11 o7 (o8.set ((o0_4.getD ((IntKind.i64.wrap ((IntKind.i64.wrap (s * o0_1)) + r10)).toNat) 0).toNat) (IntKind.i64.wrap ((o8.getD ((o0_4.getD ((IntKind.i64.wrap ((IntKind.i64.wrap (s * o0_1)) + r10)).toNat) 0).toNat) 0) + 1))) (o9.set ((IntKind.i64.wrap ((IntKind.i64.wrap (s * o0_1)) + r10)).toNat) (IntKind.i64.wrap ((o9.getD ((IntKind.i64.wrap ((IntKind.i64.wrap (s * o0_1)) + r10)).toNat) 0) + 1))) (o10 ++ [r10]))
               none)
              none)
             none)
            none)
           none)
          none)))))
   (bi (decide ((o7.length + [o10].length) * 24 ≤ lim))
    (K0 0 (o7 ++ [o10]) o8 o9)
    none)

/-- tutor/walk.Stroll -/
def e_walk_Stroll {R : Type} (g16_14 : Int → Int → Int → Int → Int → Int → Int → Int → (List Int) → (List Int) → (List (List Int)) → (List Int) → (List Int) → Int → (List (List Int)) → (List Int) → (List Int) → (List Int) → Option R) (K0 : Int → (List (List Int)) → (List Int) → (List Int) → Option R) (m : Int) (m_1 : Int) (m_2 : Int) (m_3 : Int) (m_4 : List Int) (m_5 : List Int) (seed : Int) (steps : Int) (stop : Int) : Option R :=
  l_machine_Check m m_1 m_2 m_3 m_4 m_5
   (fun r1 r2 =>
    bi (r2 != 0)
     (K0 r2 ([] : List (List Int)) ([] : List Int) ([] : List Int))
     (bi (decide (steps < 0))
      (K0 1 ([] : List (List Int)) ([] : List Int) ([] : List Int))
      (bi (decide (stop < 1))
       (K0 1 ([] : List (List Int)) ([] : List Int) ([] : List Int))
       (bi (decide (steps > 65536))
        (K0 3 ([] : List (List Int)) ([] : List Int) ([] : List Int))
        (l_walk_New seed
         (fun r3 =>
          both
           (bi (decide (0 ≤ m_3 ∧ m_3 ≤ m_3 ∧ m_3 ≤ 1073741824))
            (both
             (bi (decide (0 ≤ (m_4.length : Int) ∧ (m_4.length : Int) ≤ (m_4.length : Int) ∧ (m_4.length : Int) ≤ 1073741824))
              (both
               (bi (decide (0 ≤ (0 : Int) ∧ (0 : Int) < (((List.replicate m_3.toNat (0 : Int)).length : Nat) : Int)))
                (bi (decide (0 ≤ (0 : Int) ∧ (0 : Int) < (((List.replicate m_3.toNat (0 : Int)).length : Nat) : Int)))
                 (g16_14 stop 0 steps 0 m m_1 m_2 m_3 m_4 m_5 ([] : List (List Int)) ([] : List Int) ([] : List Int) r3 ([] : List (List Int)) ((List.replicate m_3.toNat (0 : Int)).set 0 (IntKind.i64.wrap (((List.replicate m_3.toNat (0 : Int)).getD 0 0) + 1))) (List.replicate (m_4.length : Int).toNat (0 : Int)) ([] : List Int))
                 none)
                none)
               (bi (decide (0 ≤ (0 : Int) ∧ (0 : Int) < (((List.replicate m_3.toNat (0 : Int)).length : Nat) : Int)))
                (bi (decide (0 ≤ (0 : Int) ∧ (0 : Int) < (((List.replicate m_3.toNat (0 : Int)).length : Nat) : Int)))
                 (g16_14 stop 0 steps 0 m m_1 m_2 m_3 m_4 m_5 ([] : List (List Int)) ([] : List Int) ([] : List Int) r3 ([] : List (List Int)) ((List.replicate m_3.toNat (0 : Int)).set 0 (IntKind.i64.wrap (((List.replicate m_3.toNat (0 : Int)).getD 0 0) + 1))) (List.replicate (m_4.length : Int).toNat (0 : Int)) ([] : List Int))
                 none)
                none))
              none)
             (bi (decide (0 ≤ (m_4.length : Int) ∧ (m_4.length : Int) ≤ (m_4.length : Int) ∧ (m_4.length : Int) ≤ 1073741824))
              (bi (decide (0 ≤ (0 : Int) ∧ (0 : Int) < (((List.replicate m_3.toNat (0 : Int)).length : Nat) : Int)))
               (bi (decide (0 ≤ (0 : Int) ∧ (0 : Int) < (((List.replicate m_3.toNat (0 : Int)).length : Nat) : Int)))
                (g16_14 stop 0 steps 0 m m_1 m_2 m_3 m_4 m_5 ([] : List (List Int)) ([] : List Int) ([] : List Int) r3 ([] : List (List Int)) ((List.replicate m_3.toNat (0 : Int)).set 0 (IntKind.i64.wrap (((List.replicate m_3.toNat (0 : Int)).getD 0 0) + 1))) (List.replicate (m_4.length : Int).toNat (0 : Int)) ([] : List Int))
                none)
               none)
              none))
            none)
           (both
            (bi (decide (0 ≤ (m_4.length : Int) ∧ (m_4.length : Int) ≤ (m_4.length : Int) ∧ (m_4.length : Int) ≤ 1073741824))
             (both
              (bi (decide (0 ≤ m_3 ∧ m_3 ≤ m_3 ∧ m_3 ≤ 1073741824))
               (both
                (bi (decide (0 ≤ (0 : Int) ∧ (0 : Int) < (((List.replicate m_3.toNat (0 : Int)).length : Nat) : Int)))
                 (bi (decide (0 ≤ (0 : Int) ∧ (0 : Int) < (((List.replicate m_3.toNat (0 : Int)).length : Nat) : Int)))
                  (g16_14 stop 0 steps 0 m m_1 m_2 m_3 m_4 m_5 ([] : List (List Int)) ([] : List Int) ([] : List Int) r3 ([] : List (List Int)) ((List.replicate m_3.toNat (0 : Int)).set 0 (IntKind.i64.wrap (((List.replicate m_3.toNat (0 : Int)).getD 0 0) + 1))) (List.replicate (m_4.length : Int).toNat (0 : Int)) ([] : List Int))
                  none)
                 none)
                (bi (decide (0 ≤ (0 : Int) ∧ (0 : Int) < (((List.replicate m_3.toNat (0 : Int)).length : Nat) : Int)))
                 (bi (decide (0 ≤ (0 : Int) ∧ (0 : Int) < (((List.replicate m_3.toNat (0 : Int)).length : Nat) : Int)))
                  (g16_14 stop 0 steps 0 m m_1 m_2 m_3 m_4 m_5 ([] : List (List Int)) ([] : List Int) ([] : List Int) r3 ([] : List (List Int)) ((List.replicate m_3.toNat (0 : Int)).set 0 (IntKind.i64.wrap (((List.replicate m_3.toNat (0 : Int)).getD 0 0) + 1))) (List.replicate (m_4.length : Int).toNat (0 : Int)) ([] : List Int))
                  none)
                 none))
               none)
              (bi (decide (0 ≤ m_3 ∧ m_3 ≤ m_3 ∧ m_3 ≤ 1073741824))
               (bi (decide (0 ≤ (0 : Int) ∧ (0 : Int) < (((List.replicate m_3.toNat (0 : Int)).length : Nat) : Int)))
                (bi (decide (0 ≤ (0 : Int) ∧ (0 : Int) < (((List.replicate m_3.toNat (0 : Int)).length : Nat) : Int)))
                 (g16_14 stop 0 steps 0 m m_1 m_2 m_3 m_4 m_5 ([] : List (List Int)) ([] : List Int) ([] : List Int) r3 ([] : List (List Int)) ((List.replicate m_3.toNat (0 : Int)).set 0 (IntKind.i64.wrap (((List.replicate m_3.toNat (0 : Int)).getD 0 0) + 1))) (List.replicate (m_4.length : Int).toNat (0 : Int)) ([] : List Int))
                 none)
                none)
               none))
             none)
            (both
             (bi (decide (0 ≤ m_3 ∧ m_3 ≤ m_3 ∧ m_3 ≤ 1073741824))
              (bi (decide (0 ≤ (m_4.length : Int) ∧ (m_4.length : Int) ≤ (m_4.length : Int) ∧ (m_4.length : Int) ≤ 1073741824))
               (bi (decide (0 ≤ (0 : Int) ∧ (0 : Int) < (((List.replicate m_3.toNat (0 : Int)).length : Nat) : Int)))
                (bi (decide (0 ≤ (0 : Int) ∧ (0 : Int) < (((List.replicate m_3.toNat (0 : Int)).length : Nat) : Int)))
                 (g16_14 stop 0 steps 0 m m_1 m_2 m_3 m_4 m_5 ([] : List (List Int)) ([] : List Int) ([] : List Int) r3 ([] : List (List Int)) ((List.replicate m_3.toNat (0 : Int)).set 0 (IntKind.i64.wrap (((List.replicate m_3.toNat (0 : Int)).getD 0 0) + 1))) (List.replicate (m_4.length : Int).toNat (0 : Int)) ([] : List Int))
                 none)
                none)
               none)
              none)
             (bi (decide (0 ≤ (m_4.length : Int) ∧ (m_4.length : Int) ≤ (m_4.length : Int) ∧ (m_4.length : Int) ≤ 1073741824))
              (bi (decide (0 ≤ m_3 ∧ m_3 ≤ m_3 ∧ m_3 ≤ 1073741824))
               (bi (decide (0 ≤ (0 : Int) ∧ (0 : Int) < (((List.replicate m_3.toNat (0 : Int)).length : Nat) : Int)))
                (bi (decide (0 ≤ (0 : Int) ∧ (0 : Int) < (((List.replicate m_3.toNat (0 : Int)).length : Nat) : Int)))
                 (g16_14 stop 0 steps 0 m m_1 m_2 m_3 m_4 m_5 ([] : List (List Int)) ([] : List Int) ([] : List Int) r3 ([] : List (List Int)) ((List.replicate m_3.toNat (0 : Int)).set 0 (IntKind.i64.wrap (((List.replicate m_3.toNat (0 : Int)).getD 0 0) + 1))) (List.replicate (m_4.length : Int).toNat (0 : Int)) ([] : List Int))
                 none)
                none)
               none)
              none)))))))))

def run_walk_Stroll {R : Type} (K0 : Int → (List (List Int)) → (List Int) → (List Int) → Option R) : Nat → Int → Int → Int → Int → Int → Int → Int → Int → (List Int) → (List Int) → (List (List Int)) → (List Int) → (List Int) → Int → (List (List Int)) → (List Int) → (List Int) → (List Int) → Option R
  | 0 => fun _ _ _ _ _ _ _ _ _ _ _ _ _ _ _ _ _ _ => none
  | n + 1 => s_walk_Stroll_14 (run_walk_Stroll K0 n) K0

/-- What a stroll is: error, words, how often where, which ways how often. -/
def strollS (k K O N : Int) (nx ou : List Int) (seed steps stop : Int) : Int × List (List Int) × List Int × List Int :=
  if (checkR k K O N nx ou).2 ≠ 0 then ((checkR k K O N nx ou).2, [], [], []) else if steps < 0 ∨ stop < 1 then (1, [], [], []) else if steps > 65536 then (3, [], [], []) else
    (0, wordsS stop K seed steps, (toldS K nx N (wordsS stop K seed steps)).2.1, (toldS K nx N (wordsS stop K seed steps)).2.2)

def l_walk_Stroll {R : Type} (m : Int) (m_1 : Int) (m_2 : Int) (m_3 : Int) (m_4 : List Int) (m_5 : List Int) (seed : Int) (steps : Int) (stop : Int) (K0 : Int → (List (List Int)) → (List Int) → (List Int) → Option R) : Option R :=
  bi (decide ((okL m_4 ∧ okL m_5) ∧ inI stop)) (K0 (strollS m m_1 m_2 m_3 m_4 m_5 seed steps stop).1 (strollS m m_1 m_2 m_3 m_4 m_5 seed steps stop).2.1 (strollS m m_1 m_2 m_3 m_4 m_5 seed steps stop).2.2.1 (strollS m m_1 m_2 m_3 m_4 m_5 seed steps stop).2.2.2) none

theorem stroll_run {R : Type} {k K O N : Int} {nx ou : List Int} (F : Fine k K O N nx ou) {stop steps : Int} (hst : inI stop) (hsp : 0 ≤ steps ∧ steps ≤ 65536) (K0 : Int → (List (List Int)) → (List Int) → (List Int) → Option R) :
    ∀ (n i : Nat) (p : SS), (i : Int) + n = steps → Way K i p → tsane nx N (plcS K nx N p.2) →
    Reach (fun m => run_walk_Stroll K0 m stop (plcS K nx N p.2).1 steps i k K O N nx ou [] [] [] p.1 p.2.1 (plcS K nx N p.2).2.1 (plcS K nx N p.2).2.2 p.2.2)
      (K0 0 ((sgo stop K n p).2.1 ++ [(sgo stop K n p).2.2]) (plcS K nx N (sgo stop K n p).2).2.1 (plcS K nx N (sgo stop K n p).2).2.2)
  | 0, i, p, hi, W, T => by
    have h1 := W.few
    refine .now fun m => ?_
    rw [show run_walk_Stroll K0 (m + 1) = s_walk_Stroll_14 (run_walk_Stroll K0 m) K0 from rfl]
    unfold s_walk_Stroll_14
    rw [br_neg (by omega), br_pos (by
      show (p.2.1.length + 1) * 24 ≤ 140737488355328
      omega)]
    rfl
  | n + 1, i, p, hi, W, T => by
    have hN := F.fN
    have hK := F.fK
    have hNK := mulK ⟨hN, hK⟩
    have hx := F.fnx
    have h1 := W.few
    have h0 := W.now.1
    have hc := intS_in (n := K) (x := (intS stop p.1).2) hK.1 ⟨by omega, by omega⟩
    have hTW := turn_way (stop := stop) W
    have T1 : tsane nx N (plcS K nx N (turnS stop p)) := by
      unfold turnS
      by_cases c : (intS stop p.1).1 = 0 ∨ p.2.2.length = 4096
      · rw [if_pos c, plcS_new]
        exact tstart_sane hN.1 T
      · rw [if_neg c]
        exact T
    have ih := stroll_run F hst hsp K0 n (i + 1) (sstep stop K p) (by omega) (sstep_way hK W) (by
      show tsane nx N (plcS K nx N ((turnS stop p).1, (turnS stop p).2 ++ [(intS K (intS stop p.1).2).1]))
      rw [plcS_snoc]
      exact tstep_sane F T1 hc)
    refine .step (fun m => ?_) ih
    rw [show run_walk_Stroll K0 (m + 1) = s_walk_Stroll_14 (run_walk_Stroll K0 m) K0 from rfl]
    show _ = run_walk_Stroll K0 m stop (plcS K nx N ((turnS stop p).1, (turnS stop p).2 ++ [(intS K (intS stop p.1).2).1])).1 steps _ _ _ _ _ _ _ _ _ _ (intS K (intS stop p.1).2).2 (turnS stop p).1 (plcS K nx N ((turnS stop p).1, (turnS stop p).2 ++ [(intS K (intS stop p.1).2).1])).2.1 (plcS K nx N ((turnS stop p).1, (turnS stop p).2 ++ [(intS K (intS stop p.1).2).1])).2.2 ((turnS stop p).2 ++ [(intS K (intS stop p.1).2).1])
    rw [plcS_snoc]
    unfold s_walk_Stroll_14
    rw [br_pos (by omega), walkInt_eq hst, wr ((i : Int) + 1) (by omega) (by omega)]
    try dsimp only
    have hl1 : (p.2.1.length + [p.2.2].length) * 24 ≤ lim := by
      show (p.2.1.length + 1) * 24 ≤ 140737488355328
      omega
    obtain ⟨t1, t2, t3⟩ := T
    have idx := idx_in T1.1 hc
    have T2 := T1.2.1
    have T3 := T1.2.2
    have hn : 0 ≤ nx.getD ((plcS K nx N (turnS stop p)).1 * K + (intS K (intS stop p.1).2).1).toNat 0 ∧ nx.getD ((plcS K nx N (turnS stop p)).1 * K + (intS K (intS stop p.1).2).1).toNat 0 < N := by
      rw [getD_of 0 (by omega)]
      exact F.fnxs _ (List.getElem_mem _)
    have hKI : inI K := ⟨by omega, by omega⟩
    by_cases c : (intS stop p.1).1 = 0 ∨ p.2.2.length = 4096
    · have e : turnS stop p = (p.2.1 ++ [p.2.2], []) := by unfold turnS; rw [if_pos c]
      rw [e] at T2 T3 idx hn ⊢
      rw [plcS_new, show (p.2.1, p.2.2) = p.2 from rfl] at T2 T3 idx hn ⊢
      dsimp only at T2 T3 idx hn ⊢
      have p0 : 0 ≤ (0 : Int) ∧ (0 : Int) < (((plcS K nx N p.2).2.1.length : Nat) : Int) := by omega
      have hcut : ∀ X : Option R, bi ((intS stop p.1).1 == 0) X (bi ((p.2.2.length : Int) == 4096) X none) = X := fun X => by
        by_cases c1 : (intS stop p.1).1 = 0
        · rw [br_eq c1]
        · rw [br_eq' c1, br_eq (by omega)]
      have two : ∀ X Y : Option R, bi ((intS stop p.1).1 == 0) X (bi ((p.2.2.length : Int) == 4096) X Y) = X := fun X Y => by
        by_cases c1 : (intS stop p.1).1 = 0
        · rw [br_eq c1]
        · rw [br_eq' c1, br_eq (by omega)]
      rw [two, br_pos hl1, br_pos p0, br_pos p0, walkInt_eq hKI]
      try dsimp only
      rw [br_pos (by
        show (0 + 1) * 8 ≤ 140737488355328
        omega), wr (0 * K) (by omega) (by omega), wr _ (by omega) (by omega), br_pos (by omega), br_pos (by omega), br_pos (by omega)]
      rw [show ((plcS K nx N p.2).2.1.set 0 (IntKind.i64.wrap ((plcS K nx N p.2).2.1.getD 0 0 + 1))) = incS (plcS K nx N p.2).2.1 0 from rfl]
      rw [br_pos (by omega), br_pos (by omega)]
      rfl
    · have e : turnS stop p = p.2 := by unfold turnS; rw [if_neg c]
      rw [e] at T2 T3 idx hn ⊢
      rw [br_eq' (by omega), br_eq' (by omega), walkInt_eq hKI]
      try dsimp only
      rw [br_pos (by
        show (p.2.2.length + 1) * 8 ≤ 140737488355328
        omega), wr ((plcS K nx N p.2).1 * K) (by omega) (by omega), wr _ (by omega) (by omega), br_pos (by omega), br_pos (by omega), br_pos (by omega), br_pos (by omega), br_pos (by omega)]
      rfl

theorem ok_walk_Stroll {R : Type} (m : Int) (m_1 : Int) (m_2 : Int) (m_3 : Int) (m_4 : List Int) (m_5 : List Int) (seed : Int) (steps : Int) (stop : Int) (K0 : Int → (List (List Int)) → (List Int) → (List Int) → Option R) {r : R} (h : l_walk_Stroll m m_1 m_2 m_3 m_4 m_5 seed steps stop K0 = some r) :
    ∃ fuel, e_walk_Stroll (run_walk_Stroll K0 fuel) K0 m m_1 m_2 m_3 m_4 m_5 seed steps stop = some r := by
  unfold l_walk_Stroll at h
  rcases bi_some h with ⟨hs, h'⟩ | ⟨_, h'⟩
  · obtain ⟨⟨o1, o2⟩, hst⟩ := of_decide_eq_true hs
    rw [← h']
    unfold e_walk_Stroll strollS
    simp only [check_eq _ _ _ _ _ _ o1.1 o2.1, checkS_eq o1 o2]
    by_cases c1 : (checkR m m_1 m_2 m_3 m_4 m_5).2 = 0
    · rw [if_neg (by simpa using c1)]
      simp only [br_ne' c1]
      by_cases c2 : steps < 0
      · exact ⟨0, by rw [br_pos c2, if_pos (.inl c2)]⟩
      by_cases c3 : stop < 1
      · exact ⟨0, by rw [br_neg c2, br_pos c3, if_pos (.inr c3)]⟩
      rw [if_neg (by omega)]
      by_cases c4 : steps > 65536
      · exact ⟨0, by rw [br_neg c2, br_neg c3, br_pos c4, if_pos c4]⟩
      rw [if_neg c4]
      have F := checkR_fine.1 c1
      have hN := F.fN
      have hNK := mulK ⟨hN, F.fK⟩
      have hx := F.fnx
      have T0 : tsane m_4 m_3 (plcS m_1 m_4 m_3 ([], [])) := tstart_sane hN.1 (told0_sane F)
      obtain ⟨n, hn⟩ := (stroll_run F (steps := steps) hst (by omega) K0 steps.toNat 0 (seedS seed, [], []) (by omega) (way0 _ _) T0).get
      refine ⟨n, ?_⟩
      have p1 : 0 ≤ m_3 ∧ m_3 ≤ m_3 ∧ m_3 ≤ 1073741824 := by omega
      have p2 : 0 ≤ (m_4.length : Int) ∧ (m_4.length : Int) ≤ (m_4.length : Int) ∧ (m_4.length : Int) ≤ 1073741824 := by omega
      have p3 : 0 ≤ (0 : Int) ∧ (0 : Int) < (((List.replicate m_3.toNat (0 : Int)).length : Nat) : Int) := by rw [List.length_replicate]; omega
      simp only [br_neg c2, br_neg c3, br_neg c4, new_eq, br_pos p1, br_pos p2, br_pos p3, both_same, Int.toNat_natCast]
      unfold wordsS
      rw [told_snoc]
      exact hn
    · exact ⟨0, by rw [br_ne c1, if_pos (by simpa using c1)]⟩
  · cases h'

theorem stroll_eq {R : Type} {k K O N : Int} {nx ou : List Int} (o1 : okL nx) (o2 : okL ou) {seed steps stop : Int} (h : inI stop) (K0 : Int → (List (List Int)) → (List Int) → (List Int) → Option R) :
    l_walk_Stroll k K O N nx ou seed steps stop K0 = K0 (strollS k K O N nx ou seed steps stop).1 (strollS k K O N nx ou seed steps stop).2.1 (strollS k K O N nx ou seed steps stop).2.2.1 (strollS k K O N nx ou seed steps stop).2.2.2 := by
  unfold l_walk_Stroll
  rw [br_pos ⟨⟨o1, o2⟩, h⟩]

/-- tutor/tutorlaw21.num -/
def l_tutorlaw21_num {R : Type} (e : Int) (K0 : Int → Option R) : Option R :=
  K0 e

/-- tutor/tutorref01.Check -/
def s_tutorref01_Check_6 {R : Type} (g22_6 : (List Int) → Int → Int → Option R) (K0 : Int → Int → Option R) (w : List Int) (k : Int) (i : Int) : Option R :=
  bi (decide (i < (w.length : Int)))
   (bi (decide (0 ≤ i ∧ i < ((w.length : Nat) : Int)))
    (bi (decide ((w.getD i.toNat 0) < 0))
     (K0 i 10)
     (bi (decide (0 ≤ i ∧ i < ((w.length : Nat) : Int)))
      (bi (decide ((w.getD i.toNat 0) ≥ k))
       (K0 i 10)
       (g22_6 w k (IntKind.i64.wrap (i + 1))))
      none))
    none)
   (K0 0 0)

/-- tutor/tutorref01.Check -/
def e_tutorref01_Check {R : Type} (g22_6 : (List Int) → Int → Int → Option R) (K0 : Int → Int → Option R) (w : List Int) (k : Int) : Option R :=
  bi (decide (k < 1))
   (K0 0 1)
   (bi (decide (k > 64))
    (K0 0 1)
    (bi (decide ((w.length : Int) > 4096))
     (K0 0 2)
     (g22_6 w k 0)))

def run_tutorref01_Check {R : Type} (K0 : Int → Int → Option R) : Nat → (List Int) → Int → Int → Option R
  | 0 => fun _ _ _ => none
  | n + 1 => s_tutorref01_Check_6 (run_tutorref01_Check K0 n) K0

def l_tutorref01_Check {R : Type} (w : List Int) (k : Int) (K0 : Int → Int → Option R) : Option R := K0 (wordS k w).1 (wordS k w).2

theorem ok_tutorref01_Check {R : Type} (w : List Int) (k : Int) (K0 : Int → Int → Option R) {r : R} (h : l_tutorref01_Check w k K0 = some r) : ∃ fuel, e_tutorref01_Check (run_tutorref01_Check K0 fuel) K0 w k = some r := by
  refine ⟨w.length + 1, ?_⟩
  rw [← h]
  unfold l_tutorref01_Check e_tutorref01_Check wordS
  by_cases h1 : k < 1
  · rw [br_pos h1, if_pos (by omega)]
  rw [br_neg h1]
  by_cases h2 : k > 64
  · rw [br_pos h2, if_pos (by omega)]
  rw [br_neg h2, if_neg (by omega)]
  by_cases h3 : w.length > 4096
  · rw [br_pos (by omega), if_pos h3]
  rw [br_neg (by omega), if_neg h3]
  have key := scan_all (F := fun m i => run_tutorref01_Check K0 m w k (i : Int)) (outside k) (l := w) (A := fun i => K0 i 10) (B := K0 0 0)
    (fun m => by
      show s_tutorref01_Check_6 _ _ _ _ _ = _
      unfold s_tutorref01_Check_6
      rw [br_neg (by omega)])
    (fun m i hi => by
      show s_tutorref01_Check_6 _ _ _ _ _ = _
      unfold s_tutorref01_Check_6
      rw [br_pos (by omega), br_pos (by omega), br_pos (p := 0 ≤ (i : Int) ∧ (i : Int) < ((w.length : Nat) : Int)) (by omega), Int.toNat_natCast, getD_of 0 hi, wr _ (by omega) (by omega)]
      unfold outside
      cases decide (w[i] < 0) <;> cases decide (w[i] ≥ k) <;> rfl)
  refine key.trans ?_
  cases findP (outside k) w <;> rfl

/-- tutor/tutorref21.Told -/
def s_tutorref21_Told_3 {R : Type} (g23_3 : (List (List Int)) → Int → Int → Int → Int → Int → (List Int) → (List Int) → (List (List Int)) → (List Int) → (List Int) → (List (List Int)) → (List Int) → (List Int) → Option R) (g23_8 : (List (List Int)) → Int → Int → Int → Int → Int → Int → Int → (List Int) → (List Int) → (List (List Int)) → (List Int) → (List Int) → (List (List Int)) → (List Int) → (List Int) → Option R) (K0 : (List (List Int)) → (List Int) → (List Int) → Option R) (words : List (List Int)) (i : Int) (o0 : Int) (o0_1 : Int) (o0_2 : Int) (o0_3 : Int) (o0_4 : List Int) (o0_5 : List Int) (o2 : List (List Int)) (o3 : List Int) (o4 : List Int) (o5 : List (List Int)) (o6 : List Int) (o7 : List Int) : Option R :=
  bi (decide (i < (words.length : Int)))
   (bi (decide (0 ≤ (0 : Int) ∧ (0 : Int) < ((o6.length : Nat) : Int)))
    (bi (decide (0 ≤ (0 : Int) ∧ (0 : Int) < ((o6.length : Nat) : Int)))
     (g23_8 words i 0 0 o0 o0_1 o0_2 o0_3 o0_4 o0_5 o2 o3 o4 o5 (o6.set 0 (IntKind.i64.wrap ((o6.getD 0 0) + 1))) o7)
     none)
    none)
   (K0 o5 o6 o7)

/-- tutor/tutorref21.Told -/
def s_tutorref21_Told_8 {R : Type} (g23_3 : (List (List Int)) → Int → Int → Int → Int → Int → (List Int) → (List Int) → (List (List Int)) → (List Int) → (List Int) → (List (List Int)) → (List Int) → (List Int) → Option R) (g23_8 : (List (List Int)) → Int → Int → Int → Int → Int → Int → Int → (List Int) → (List Int) → (List (List Int)) → (List Int) → (List Int) → (List (List Int)) → (List Int) → (List Int) → Option R) (K0 : (List (List Int)) → (List Int) → (List Int) → Option R) (words : List (List Int)) (i : Int) (s : Int) (k : Int) (o0 : Int) (o0_1 : Int) (o0_2 : Int) (o0_3 : Int) (o0_4 : List Int) (o0_5 : List Int) (o2 : List (List Int)) (o3 : List Int) (o4 : List Int) (o5 : List (List Int)) (o6 : List Int) (o7 : List Int) : Option R :=
  bi (decide (0 ≤ i ∧ i < ((words.length : Nat) : Int)))
   (bi (decide (k < ((words.getD i.toNat []).length : Int)))
    (bi (decide (0 ≤ i ∧ i < ((words.length : Nat) : Int)))
     (bi (decide (0 ≤ k ∧ k < (((words.getD i.toNat []).length : Nat) : Int)))
      (bi (decide (0 ≤ (IntKind.i64.wrap ((IntKind.i64.wrap (s * o0_1)) + ((words.getD i.toNat []).getD k.toNat 0))) ∧ (IntKind.i64.wrap ((IntKind.i64.wrap (s * o0_1)) + ((words.getD i.toNat []).getD k.toNat 0))) < ((o7.length : Nat) : Int)))
       (bi (decide (0 ≤ (IntKind.i64.wrap ((IntKind.i64.wrap (s * o0_1)) + ((words.getD i.toNat []).getD k.toNat 0))) ∧ (IntKind.i64.wrap ((IntKind.i64.wrap (s * o0_1)) + ((words.getD i.toNat []).getD k.toNat 0))) < ((o7.length : Nat) : Int)))
        (bi (decide (0 ≤ (IntKind.i64.wrap ((IntKind.i64.wrap (s * o0_1)) + ((words.getD i.toNat []).getD k.toNat 0))) ∧ (IntKind.i64.wrap ((IntKind.i64.wrap (s * o0_1)) + ((words.getD i.toNat []).getD k.toNat 0))) < ((o0_4.length : Nat) : Int)))
         (bi (decide (0 ≤ (o0_4.getD ((IntKind.i64.wrap ((IntKind.i64.wrap (s * o0_1)) + ((words.getD i.toNat []).getD k.toNat 0))).toNat) 0) ∧ (o0_4.getD ((IntKind.i64.wrap ((IntKind.i64.wrap (s * o0_1)) + ((words.getD i.toNat []).getD k.toNat 0))).toNat) 0) < ((o6.length : Nat) : Int)))
          (bi (decide (0 ≤ (o0_4.getD ((IntKind.i64.wrap ((IntKind.i64.wrap (s * o0_1)) + ((words.getD i.toNat []).getD k.toNat 0))).toNat) 0) ∧ (o0_4.getD ((IntKind.i64.wrap ((IntKind.i64.wrap (s * o0_1)) + ((words.getD i.toNat []).getD k.toNat 0))).toNat) 0) < ((o6.length : Nat) : Int)))
           (g23_8 words i (o0_4.getD ((IntKind.i64.wrap ((IntKind.i64.wrap (s * o0_1)) + ((words.getD i.toNat []).getD k.toNat 0))).toNat) 0) (IntKind.i64.wrap (k + 1)) o0 o0_1 o0_2 o0_3 o0_4 o0_5 o2 o3 o4 o5 (o6.set ((o0_4.getD ((IntKind.i64.wrap ((IntKind.i64.wrap (s * o0_1)) + ((words.getD i.toNat []).getD k.toNat 0))).toNat) 0).toNat) (IntKind.i64.wrap ((o6.getD ((o0_4.getD ((IntKind.i64.wrap ((IntKind.i64.wrap (s * o0_1)) + ((words.getD i.toNat []).getD k.toNat 0))).toNat) 0).toNat) 0) + 1))) (o7.set ((IntKind.i64.wrap ((IntKind.i64.wrap (s * o0_1)) + ((words.getD i.toNat []).getD k.toNat 0))).toNat) (IntKind.i64.wrap ((o7.getD ((IntKind.i64.wrap ((IntKind.i64.wrap (s * o0_1)) + ((words.getD i.toNat []).getD k.toNat 0))).toNat) 0) + 1))))
           none)
          none)
         none)
        none)
       none)
      none)
     none)
    (g23_3 words (IntKind.i64.wrap (i + 1)) o0 o0_1 o0_2 o0_3 o0_4 o0_5 o2 o3 o4 o5 o6 o7))
   none

/-- tutor/tutorref21.Told -/
def e_tutorref21_Told {R : Type} (g23_3 : (List (List Int)) → Int → Int → Int → Int → Int → (List Int) → (List Int) → (List (List Int)) → (List Int) → (List Int) → (List (List Int)) → (List Int) → (List Int) → Option R) (g23_8 : (List (List Int)) → Int → Int → Int → Int → Int → Int → Int → (List Int) → (List Int) → (List (List Int)) → (List Int) → (List Int) → (List (List Int)) → (List Int) → (List Int) → Option R) (K0 : (List (List Int)) → (List Int) → (List Int) → Option R) (m : Int) (m_1 : Int) (m_2 : Int) (m_3 : Int) (m_4 : List Int) (m_5 : List Int) (words : List (List Int)) : Option R :=
  both
   (bi (decide (0 ≤ m_3 ∧ m_3 ≤ m_3 ∧ m_3 ≤ 1073741824))
    (both
     (bi (decide (0 ≤ (m_4.length : Int) ∧ (m_4.length : Int) ≤ (m_4.length : Int) ∧ (m_4.length : Int) ≤ 1073741824))
      (both
       (g23_3 words 0 m m_1 m_2 m_3 m_4 m_5 ([] : List (List Int)) ([] : List Int) ([] : List Int) words (List.replicate m_3.toNat (0 : Int)) (List.replicate (m_4.length : Int).toNat (0 : Int)))
       (g23_3 words 0 m m_1 m_2 m_3 m_4 m_5 ([] : List (List Int)) ([] : List Int) ([] : List Int) words (List.replicate m_3.toNat (0 : Int)) (List.replicate (m_4.length : Int).toNat (0 : Int))))
      none)
     (bi (decide (0 ≤ (m_4.length : Int) ∧ (m_4.length : Int) ≤ (m_4.length : Int) ∧ (m_4.length : Int) ≤ 1073741824))
      (g23_3 words 0 m m_1 m_2 m_3 m_4 m_5 ([] : List (List Int)) ([] : List Int) ([] : List Int) words (List.replicate m_3.toNat (0 : Int)) (List.replicate (m_4.length : Int).toNat (0 : Int)))
      none))
    none)
   (both
    (bi (decide (0 ≤ (m_4.length : Int) ∧ (m_4.length : Int) ≤ (m_4.length : Int) ∧ (m_4.length : Int) ≤ 1073741824))
     (both
      (bi (decide (0 ≤ m_3 ∧ m_3 ≤ m_3 ∧ m_3 ≤ 1073741824))
       (both
        (g23_3 words 0 m m_1 m_2 m_3 m_4 m_5 ([] : List (List Int)) ([] : List Int) ([] : List Int) words (List.replicate m_3.toNat (0 : Int)) (List.replicate (m_4.length : Int).toNat (0 : Int)))
        (g23_3 words 0 m m_1 m_2 m_3 m_4 m_5 ([] : List (List Int)) ([] : List Int) ([] : List Int) words (List.replicate m_3.toNat (0 : Int)) (List.replicate (m_4.length : Int).toNat (0 : Int))))
       none)
      (bi (decide (0 ≤ m_3 ∧ m_3 ≤ m_3 ∧ m_3 ≤ 1073741824))
       (g23_3 words 0 m m_1 m_2 m_3 m_4 m_5 ([] : List (List Int)) ([] : List Int) ([] : List Int) words (List.replicate m_3.toNat (0 : Int)) (List.replicate (m_4.length : Int).toNat (0 : Int)))
       none))
     none)
    (both
     (bi (decide (0 ≤ m_3 ∧ m_3 ≤ m_3 ∧ m_3 ≤ 1073741824))
      (bi (decide (0 ≤ (m_4.length : Int) ∧ (m_4.length : Int) ≤ (m_4.length : Int) ∧ (m_4.length : Int) ≤ 1073741824))
       (g23_3 words 0 m m_1 m_2 m_3 m_4 m_5 ([] : List (List Int)) ([] : List Int) ([] : List Int) words (List.replicate m_3.toNat (0 : Int)) (List.replicate (m_4.length : Int).toNat (0 : Int)))
       none)
      none)
     (bi (decide (0 ≤ (m_4.length : Int) ∧ (m_4.length : Int) ≤ (m_4.length : Int) ∧ (m_4.length : Int) ≤ 1073741824))
      (bi (decide (0 ≤ m_3 ∧ m_3 ≤ m_3 ∧ m_3 ≤ 1073741824))
       (g23_3 words 0 m m_1 m_2 m_3 m_4 m_5 ([] : List (List Int)) ([] : List Int) ([] : List Int) words (List.replicate m_3.toNat (0 : Int)) (List.replicate (m_4.length : Int).toNat (0 : Int)))
       none)
      none)))

def run_tutorref21_Told {R : Type} (K0 : (List (List Int)) → (List Int) → (List Int) → Option R) : Nat → ((List (List Int)) → Int → Int → Int → Int → Int → (List Int) → (List Int) → (List (List Int)) → (List Int) → (List Int) → (List (List Int)) → (List Int) → (List Int) → Option R) × ((List (List Int)) → Int → Int → Int → Int → Int → Int → Int → (List Int) → (List Int) → (List (List Int)) → (List Int) → (List Int) → (List (List Int)) → (List Int) → (List Int) → Option R)
  | 0 => (fun _ _ _ _ _ _ _ _ _ _ _ _ _ _ => none, fun _ _ _ _ _ _ _ _ _ _ _ _ _ _ _ _ => none)
  | n + 1 => (s_tutorref21_Told_3 (run_tutorref21_Told K0 n).1 (run_tutorref21_Told K0 n).2 K0, s_tutorref21_Told_8 (run_tutorref21_Told K0 n).1 (run_tutorref21_Told K0 n).2 K0)

def toldOk (k K O N : Int) (nx ou : List Int) (words : List (List Int)) : Prop := (checkR k K O N nx ou).2 = 0 ∧ words.length < 4611686018427387904 ∧ ∀ w ∈ words, w.length ≤ 4096 ∧ ∀ x ∈ w, 0 ≤ x ∧ x < K
instance (k K O N : Int) (nx ou : List Int) (words : List (List Int)) : Decidable (toldOk k K O N nx ou words) := by unfold toldOk; infer_instance

def l_tutorref21_Told {R : Type} (m : Int) (m_1 : Int) (m_2 : Int) (m_3 : Int) (m_4 : List Int) (m_5 : List Int) (words : List (List Int)) (K0 : (List (List Int)) → (List Int) → (List Int) → Option R) : Option R :=
  bi (decide (toldOk m m_1 m_2 m_3 m_4 m_5 words)) (K0 words (toldS m_1 m_4 m_3 words).2.1 (toldS m_1 m_4 m_3 words).2.2) none

theorem toldIn {R : Type} {k K O N : Int} {nx ou : List Int} (F : Fine k K O N nx ou) (words : List (List Int)) (K0 : (List (List Int)) → (List Int) → (List Int) → Option R) {i : Nat} (hi : i < words.length) (hs : words.length < 4611686018427387904) (hw : words[i].length ≤ 4096 ∧ validW K words[i]) {v : Option R}
    {f : TS} (hout : Reach (fun m => (run_tutorref21_Told K0 m).1 words ((i + 1 : Nat) : Int) k K O N nx ou [] [] [] words f.2.1 f.2.2) v) :
    ∀ (d j : Nat) (t : TS), j + d = words[i].length → tsane nx N t → (words[i].drop j).foldl (tstep K nx) t = f → Reach (fun m => (run_tutorref21_Told K0 m).2 words i t.1 j k K O N nx ou [] [] [] words t.2.1 t.2.2) v := by
  intro d
  have hN := F.fN
  have hK := F.fK
  have hNK := mulK ⟨hN, hK⟩
  have hx := F.fnx
  induction d with
  | zero =>
    intro j t hj ht hf
    rw [List.drop_eq_nil_of_le (by omega)] at hf
    subst hf
    refine .step (fun m => ?_) hout
    rw [show (run_tutorref21_Told K0 (m + 1)).2 = s_tutorref21_Told_8 (run_tutorref21_Told K0 m).1 (run_tutorref21_Told K0 m).2 K0 from rfl]
    unfold s_tutorref21_Told_8
    rw [br_pos (by omega), Int.toNat_natCast, getD_of [] hi, br_neg (by omega), wr _ (by omega) (by omega)]
    rfl
  | succ d ih =>
    intro j t hj ht hf
    have hj' : j < words[i].length := by omega
    rw [List.drop_eq_getElem_cons hj'] at hf
    have hc := hw.2 _ (List.getElem_mem hj')
    have h1 := idx_in ht.1 hc
    have h2 := ht.2.1
    have h3 := ht.2.2
    have hn : 0 ≤ nx.getD (t.1 * K + words[i][j]).toNat 0 ∧ nx.getD (t.1 * K + words[i][j]).toNat 0 < N := by
      rw [getD_of 0 (by omega)]
      exact F.fnxs _ (List.getElem_mem _)
    refine .step (fun m => ?_) (ih (j + 1) (tstep K nx t words[i][j]) (by omega) (tstep_sane F ht hc) hf)
    rw [show (run_tutorref21_Told K0 (m + 1)).2 = s_tutorref21_Told_8 (run_tutorref21_Told K0 m).1 (run_tutorref21_Told K0 m).2 K0 from rfl]
    unfold s_tutorref21_Told_8
    have p1 : 0 ≤ (i : Int) ∧ (i : Int) < ((words.length : Nat) : Int) := by omega
    rw [br_pos p1, Int.toNat_natCast, getD_of [] hi, br_pos (by omega), br_pos p1, br_pos (by omega), Int.toNat_natCast, getD_of 0 hj', wr (t.1 * K) (by omega) (by omega), wr (t.1 * K + words[i][j]) (by omega) (by omega), wr ((j : Int) + 1) (by omega) (by omega),
      br_pos (by omega), br_pos (by omega), br_pos (by omega)]
    rw [br_pos (by omega), br_pos (by omega)]
    rfl

theorem ok_tutorref21_Told {R : Type} (m : Int) (m_1 : Int) (m_2 : Int) (m_3 : Int) (m_4 : List Int) (m_5 : List Int) (words : List (List Int)) (K0 : (List (List Int)) → (List Int) → (List Int) → Option R) {r : R} (h : l_tutorref21_Told m m_1 m_2 m_3 m_4 m_5 words K0 = some r) :
    ∃ fuel, e_tutorref21_Told (run_tutorref21_Told K0 fuel).1 (run_tutorref21_Told K0 fuel).2 K0 m m_1 m_2 m_3 m_4 m_5 words = some r := by
  unfold l_tutorref21_Told at h
  rcases bi_some h with ⟨hs, h'⟩ | ⟨_, h'⟩
  · obtain ⟨hc, hl, hw⟩ := of_decide_eq_true hs
    have F := checkR_fine.1 hc
    have hN := F.fN
    have hK := F.fK
    have hNK := mulK ⟨hN, hK⟩
    have hx := F.fnx
    rw [← h']
    have out : ∀ (d i : Nat) (t : TS), i + d = words.length → tsane m_4 m_3 t → Reach (fun n => (run_tutorref21_Told K0 n).1 words i m m_1 m_2 m_3 m_4 m_5 [] [] [] words t.2.1 t.2.2) (K0 words ((words.drop i).foldl (tword m_1 m_4) t).2.1 ((words.drop i).foldl (tword m_1 m_4) t).2.2) := by
      intro d
      induction d with
      | zero =>
        intro i t hi ht
        refine .now fun n => ?_
        rw [show (run_tutorref21_Told K0 (n + 1)).1 = s_tutorref21_Told_3 (run_tutorref21_Told K0 n).1 (run_tutorref21_Told K0 n).2 K0 from rfl]
        unfold s_tutorref21_Told_3
        rw [br_neg (by omega), List.drop_eq_nil_of_le (by omega)]
        rfl
      | succ d ih =>
        intro i t hi ht
        have hi' : i < words.length := by omega
        have hwi := hw _ (List.getElem_mem hi')
        have := ih (i + 1) (tword m_1 m_4 t words[i]) (by omega) (tword_sane F ht hwi.2)
        rw [List.drop_eq_getElem_cons hi', List.foldl_cons]
        refine .step (fun n => ?_) (toldIn F words K0 hi' hl hwi this words[i].length 0 (0, incS t.2.1 0, t.2.2) (by omega) (tstart_sane hN.1 ht) rfl)
        rw [show (run_tutorref21_Told K0 (n + 1)).1 = s_tutorref21_Told_3 (run_tutorref21_Told K0 n).1 (run_tutorref21_Told K0 n).2 K0 from rfl]
        unfold s_tutorref21_Told_3
        have := ht.2.1
        rw [br_pos (by omega), br_pos (by omega), br_pos (by omega)]
        rfl
    obtain ⟨n, hn⟩ := (out words.length 0 _ (by omega) (told0_sane F)).get
    refine ⟨n, ?_⟩
    unfold e_tutorref21_Told
    have p1 : 0 ≤ m_3 ∧ m_3 ≤ m_3 ∧ m_3 ≤ 1073741824 := by omega
    have p2 : 0 ≤ (m_4.length : Int) ∧ (m_4.length : Int) ≤ (m_4.length : Int) ∧ (m_4.length : Int) ≤ 1073741824 := by omega
    simp only [br_pos p1, br_pos p2, both_same, Int.toNat_natCast]
    exact hn
  · cases h'

theorem told_eq {R : Type} {k K O N : Int} {nx ou : List Int} (F : Fine k K O N nx ou) {words : List (List Int)} (hl : words.length < 4611686018427387904) (hw : ∀ w ∈ words, w.length ≤ 4096 ∧ validW K w) (K0 : (List (List Int)) → (List Int) → (List Int) → Option R) :
    l_tutorref21_Told k K O N nx ou words K0 = K0 words (toldS K nx N words).2.1 (toldS K nx N words).2.2 := by
  unfold l_tutorref21_Told
  rw [br_pos ⟨checkR_fine.2 F, hl, hw⟩]

/-- tutor/tutorref01.Same -/
def s_tutorref01_Same_4 {R : Type} (g26_4 : (List Int) → (List Int) → Int → Option R) (K0 : Bool → Option R) (a : List Int) (b : List Int) (i : Int) : Option R :=
  bi (decide (i < (a.length : Int)))
   (bi (decide (0 ≤ i ∧ i < ((a.length : Nat) : Int)))
    (bi (decide (0 ≤ i ∧ i < ((b.length : Nat) : Int)))
     (bi ((a.getD i.toNat 0) != (b.getD i.toNat 0))
      (K0 false)
      (g26_4 a b (IntKind.i64.wrap (i + 1))))
     none)
    none)
   (K0 true)

/-- tutor/tutorref01.Same -/
def e_tutorref01_Same {R : Type} (g26_4 : (List Int) → (List Int) → Int → Option R) (K0 : Bool → Option R) (a : List Int) (b : List Int) : Option R :=
  bi ((a.length : Int) != (b.length : Int))
   (K0 false)
   (g26_4 a b 0)

def run_tutorref01_Same {R : Type} (K0 : Bool → Option R) : Nat → (List Int) → (List Int) → Int → Option R
  | 0 => fun _ _ _ => none
  | n + 1 => s_tutorref01_Same_4 (run_tutorref01_Same K0 n) K0

def l_tutorref01_Same {R : Type} (a : List Int) (b : List Int) (K0 : Bool → Option R) : Option R := bi (decide (short a)) (K0 (decide (a = b))) none

theorem findP_zip {a b : List Int} (hl : a.length = b.length) : findP (fun i => a.getD i 0 != b.getD i 0) (List.range a.length) = none ↔ a = b := by
  rw [findP_none]
  constructor
  · intro h
    refine List.ext_getElem hl fun i h1 h2 => ?_
    have := h i (by simpa using h1)
    rw [getD_of 0 h1, getD_of 0 h2] at this
    simpa using this
  · rintro rfl i _
    simp

theorem ok_tutorref01_Same {R : Type} (a : List Int) (b : List Int) (K0 : Bool → Option R) {r : R} (h : l_tutorref01_Same a b K0 = some r) : ∃ fuel, e_tutorref01_Same (run_tutorref01_Same K0 fuel) K0 a b = some r := by
  unfold l_tutorref01_Same at h
  rcases bi_some h with ⟨hs, h⟩ | ⟨_, h⟩
  · have hs : a.length < 4611686018427387904 := of_decide_eq_true hs
    refine ⟨a.length + 1, ?_⟩
    rw [← h]
    unfold e_tutorref01_Same
    by_cases hl : a.length = b.length
    · rw [br_ne' (by omega)]
      have key := scan_all (F := fun m i => run_tutorref01_Same K0 m a b (i : Int)) (fun i => a.getD i 0 != b.getD i 0) (l := List.range a.length) (A := fun i => K0 false) (B := K0 true)
        (fun m => by
          show s_tutorref01_Same_4 _ _ _ _ _ = _
          unfold s_tutorref01_Same_4
          rw [List.length_range, br_neg (by omega)])
        (fun m i hi => by
          rw [List.length_range] at hi
          show s_tutorref01_Same_4 _ _ _ _ _ = _
          unfold s_tutorref01_Same_4
          rw [br_pos (by omega), br_pos (by omega), br_pos (by omega), br_if, Int.toNat_natCast, wr _ (by omega) (by omega), List.getElem_range]
          rfl)
      rw [List.length_range] at key
      refine key.trans ?_
      by_cases e : a = b
      · rw [(findP_zip hl).2 e]
        simp [e]
      · have : findP (fun i => a.getD i 0 != b.getD i 0) (List.range a.length) ≠ none := fun h => e ((findP_zip hl).1 h)
        cases hf : findP (fun i => a.getD i 0 != b.getD i 0) (List.range a.length) with
        | none => exact absurd hf this
        | some j => simp [e]
    · rw [br_ne (by omega)]
      have e : a ≠ b := fun e => hl (by rw [e])
      simp [e]
  · cases h

theorem same_eq {R : Type} {a b : List Int} (h : short a) (K0 : Bool → Option R) : l_tutorref01_Same a b K0 = K0 (decide (a = b)) := by
  unfold l_tutorref01_Same
  rw [br_pos h]

/-- tutor/tutorref01.Lists -/
def s_tutorref01_Lists_4 {R : Type} (g11_4 : (List (List Int)) → (List (List Int)) → Int → Option R) (K0 : Bool → Option R) (a : List (List Int)) (b : List (List Int)) (i : Int) : Option R :=
  bi (decide (i < (a.length : Int)))
   (bi (decide (0 ≤ i ∧ i < ((a.length : Nat) : Int)))
    (bi (decide (0 ≤ i ∧ i < ((b.length : Nat) : Int)))
     (l_tutorref01_Same (a.getD i.toNat []) (b.getD i.toNat [])
      (fun r1 =>
       bi (!r1)
        (K0 false)
        (g11_4 a b (IntKind.i64.wrap (i + 1)))))
     none)
    none)
   (K0 true)

/-- tutor/tutorref01.Lists -/
def e_tutorref01_Lists {R : Type} (g11_4 : (List (List Int)) → (List (List Int)) → Int → Option R) (K0 : Bool → Option R) (a : List (List Int)) (b : List (List Int)) : Option R :=
  bi ((a.length : Int) != (b.length : Int))
   (K0 false)
   (g11_4 a b 0)

def run_tutorref01_Lists {R : Type} (K0 : Bool → Option R) : Nat → (List (List Int)) → (List (List Int)) → Int → Option R
  | 0 => fun _ _ _ => none
  | n + 1 => s_tutorref01_Lists_4 (run_tutorref01_Lists K0 n) K0

def shortR (a : List (List Int)) : Prop := short a ∧ ∀ x ∈ a, short x
instance (a : List (List Int)) : Decidable (shortR a) := by unfold shortR; infer_instance

def l_tutorref01_Lists {R : Type} (a : List (List Int)) (b : List (List Int)) (K0 : Bool → Option R) : Option R := bi (decide (shortR a)) (K0 (decide (a = b))) none

theorem listsLoop {R : Type} {a b : List (List Int)} (ha : shortR a) (hl : a.length = b.length) (K0 : Bool → Option R) : ∀ (d i : Nat), i + d = a.length → a.take i = b.take i → Reach (fun m => run_tutorref01_Lists K0 m a b (i : Int)) (K0 (decide (a = b))) := by
  have hs : a.length < 4611686018427387904 := ha.1
  intro d
  induction d with
  | zero =>
    intro i hi ht
    refine .now fun m => ?_
    dsimp only [run_tutorref01_Lists]
    unfold s_tutorref01_Lists_4
    rw [List.take_of_length_le (by omega), List.take_of_length_le (by omega)] at ht
    rw [br_neg (by omega), ht]
    simp
  | succ d ih =>
    intro i hi ht
    have h1 : i < a.length := by omega
    have h2 : i < b.length := by omega
    by_cases he : a[i] = b[i]
    · refine .step (fun m => ?_) (ih (i + 1) (by omega) ?_)
      · dsimp only [run_tutorref01_Lists]
        unfold s_tutorref01_Lists_4
        rw [br_pos (by omega), br_pos (by omega), br_pos (by omega), Int.toNat_natCast, getD_of [] h1, getD_of [] h2, same_eq (ha.2 _ (List.getElem_mem h1)), decide_eq_true he, Bool.not_true, br_ff, wr _ (by omega) (by omega)]
        rfl
      · rw [List.take_add_one, List.take_add_one, ht, List.getElem?_eq_getElem h1, List.getElem?_eq_getElem h2, he]
    · refine .now fun m => ?_
      dsimp only [run_tutorref01_Lists]
      unfold s_tutorref01_Lists_4
      have hne : ¬ a = b := fun e => he (by subst e; rfl)
      rw [br_pos (by omega), br_pos (by omega), br_pos (by omega), Int.toNat_natCast, getD_of [] h1, getD_of [] h2, same_eq (ha.2 _ (List.getElem_mem h1)), decide_eq_false he, Bool.not_false, br_tt, decide_eq_false hne]

theorem ok_tutorref01_Lists {R : Type} (a : List (List Int)) (b : List (List Int)) (K0 : Bool → Option R) {r : R} (h : l_tutorref01_Lists a b K0 = some r) : ∃ fuel, e_tutorref01_Lists (run_tutorref01_Lists K0 fuel) K0 a b = some r := by
  unfold l_tutorref01_Lists at h
  rcases bi_some h with ⟨hs, h⟩ | ⟨_, h⟩
  · have ha : shortR a := of_decide_eq_true hs
    rw [← h]
    unfold e_tutorref01_Lists
    by_cases hl : a.length = b.length
    · obtain ⟨n, hn⟩ := (listsLoop ha hl K0 a.length 0 (by omega) (by simp)).get
      exact ⟨n, by rw [br_ne' (by omega)]; exact hn⟩
    · have hne : ¬ a = b := fun e => hl (by rw [e])
      exact ⟨0, by rw [br_ne (by omega), decide_eq_false hne]⟩
  · cases h

theorem lists_eq {R : Type} {a b : List (List Int)} (h : shortR a) (K0 : Bool → Option R) : l_tutorref01_Lists a b K0 = K0 (decide (a = b)) := by
  unfold l_tutorref01_Lists
  rw [br_pos h]

/-- tutor/tutorref21.Same -/
def l_tutorref21_Same {R : Type} (a : List (List Int)) (a_1 : List Int) (a_2 : List Int) (b : List (List Int)) (b_1 : List Int) (b_2 : List Int) (K0 : Bool → Option R) : Option R :=
  l_tutorref01_Lists a b
   (fun r1 =>
    bi r1
     (l_tutorref01_Same a_1 b_1
      (fun r2 =>
       bi r2
        (l_tutorref01_Same a_2 b_2
         (fun r3 =>
          K0 r3))
        (K0 false)))
     (K0 false))

/-- tutor/tutorlaw21.WalkTrue -/
def s_tutorlaw21_WalkTrue_7 {R : Type} (g5_7 : Int → Int → Int → Int → Int → Int → Int → Int → Int → (List Int) → (List Int) → Int → Int → Option R) (g5_17 : Int → Int → Int → Int → Int → Int → Int → (List Int) → (List Int) → (List (List Int)) → (List Int) → (List Int) → Option R) (K0 : Bool → Option R) (seed : Int) (steps : Int) (stop : Int) (n : Int) (i : Int) (o0 : Int) (o0_1 : Int) (o0_2 : Int) (o0_3 : Int) (o0_4 : List Int) (o0_5 : List Int) (o1 : Int) (o2 : Int) : Option R :=
  bi (decide (i < 20))
   (l_walk_Walk_Int n o1
    (fun r6 r7 =>
     l_walk_Walk_Int n o2
      (fun r8 r9 =>
       bi (r6 != r8)
        (K0 false)
        (bi (decide (r6 < 0))
         (K0 false)
         (bi (decide (n > 0))
          (bi (decide (r6 ≥ n))
           (K0 false)
           (bi (decide (n < 1))
            (bi (r6 != 0)
             (K0 false)
             (g5_7 seed steps stop n (IntKind.i64.wrap (i + 1)) o0 o0_1 o0_2 o0_3 o0_4 o0_5 r7 r9))
            (g5_7 seed steps stop n (IntKind.i64.wrap (i + 1)) o0 o0_1 o0_2 o0_3 o0_4 o0_5 r7 r9)))
          (bi (decide (n < 1))
           (bi (r6 != 0)
            (K0 false)
            (g5_7 seed steps stop n (IntKind.i64.wrap (i + 1)) o0 o0_1 o0_2 o0_3 o0_4 o0_5 r7 r9))
           (g5_7 seed steps stop n (IntKind.i64.wrap (i + 1)) o0 o0_1 o0_2 o0_3 o0_4 o0_5 r7 r9)))))))
   (l_walk_Stroll o0 o0_1 o0_2 o0_3 o0_4 o0_5 seed steps stop
    (fun r10 r11 r12 r13 =>
     l_tutorlaw21_num r10
      (fun r14 =>
       bi (r14 != 0)
        (bi ((IntKind.i64.wrap ((IntKind.i64.wrap ((r11.length : Int) + (r12.length : Int))) + (r13.length : Int))) == 0)
         (l_tutorlaw21_live
          (fun r15 =>
           K0 r15))
         (K0 false))
        (g5_17 steps 0 0 o0 o0_1 o0_2 o0_3 o0_4 o0_5 r11 r12 r13))))

/-- tutor/tutorlaw21.WalkTrue -/
def s_tutorlaw21_WalkTrue_17 {R : Type} (g5_7 : Int → Int → Int → Int → Int → Int → Int → Int → Int → (List Int) → (List Int) → Int → Int → Option R) (g5_17 : Int → Int → Int → Int → Int → Int → Int → (List Int) → (List Int) → (List (List Int)) → (List Int) → (List Int) → Option R) (K0 : Bool → Option R) (steps : Int) (sum : Int) (i : Int) (o0 : Int) (o0_1 : Int) (o0_2 : Int) (o0_3 : Int) (o0_4 : List Int) (o0_5 : List Int) (o2 : List (List Int)) (o3 : List Int) (o4 : List Int) : Option R :=
  bi (decide (i < (o2.length : Int)))
   (bi (decide (0 ≤ i ∧ i < ((o2.length : Nat) : Int)))
    (l_tutorref01_Check (o2.getD i.toNat []) o0_1
     (fun r16 r17 =>
      bi (r17 != 0)
       (K0 false)
       (bi (decide (0 ≤ i ∧ i < ((o2.length : Nat) : Int)))
        (g5_17 steps (IntKind.i64.wrap (sum + ((o2.getD i.toNat []).length : Int))) (IntKind.i64.wrap (i + 1)) o0 o0_1 o0_2 o0_3 o0_4 o0_5 o2 o3 o4)
        none)))
    none)
   (bi (sum == steps)
    (l_tutorref21_Told o0 o0_1 o0_2 o0_3 o0_4 o0_5 o2
     (fun r18 r19 r20 =>
      l_tutorref21_Same o2 o3 o4 r18 r19 r20
       (fun r21 =>
        bi r21
         (l_tutorlaw21_live
          (fun r22 =>
           K0 r22))
         (K0 false))))
    (K0 false))

/-- tutor/tutorlaw21.WalkTrue -/
def e_tutorlaw21_WalkTrue {R : Type} (g5_7 : Int → Int → Int → Int → Int → Int → Int → Int → Int → (List Int) → (List Int) → Int → Int → Option R) (g5_17 : Int → Int → Int → Int → Int → Int → Int → (List Int) → (List Int) → (List (List Int)) → (List Int) → (List Int) → Option R) (K0 : Bool → Option R) (m : Int) (m_1 : Int) (m_2 : Int) (m_3 : Int) (m_4 : List Int) (m_5 : List Int) (seed : Int) (steps : Int) (stop : Int) (n : Int) : Option R :=
  l_tutorref03_Big m m_1 m_2 m_3 m_4 m_5 60
   (fun r1 =>
    bi r1
     (l_tutorlaw21_live
      (fun r2 =>
       K0 r2))
     (bi (decide (steps > 2000))
      (l_tutorlaw21_live
       (fun r3 =>
        K0 r3))
      (l_walk_New seed
       (fun r4 =>
        l_walk_New seed
         (fun r5 =>
          g5_7 seed steps stop n 0 m m_1 m_2 m_3 m_4 m_5 r4 r5)))))

def run_tutorlaw21_WalkTrue {R : Type} (K0 : Bool → Option R) : Nat → (Int → Int → Int → Int → Int → Int → Int → Int → Int → (List Int) → (List Int) → Int → Int → Option R) × (Int → Int → Int → Int → Int → Int → Int → (List Int) → (List Int) → (List (List Int)) → (List Int) → (List Int) → Option R)
  | 0 => (fun _ _ _ _ _ _ _ _ _ _ _ _ _ => none, fun _ _ _ _ _ _ _ _ _ _ _ _ => none)
  | n + 1 => (s_tutorlaw21_WalkTrue_7 (run_tutorlaw21_WalkTrue K0 n).1 (run_tutorlaw21_WalkTrue K0 n).2 K0, s_tutorlaw21_WalkTrue_17 (run_tutorlaw21_WalkTrue K0 n).1 (run_tutorlaw21_WalkTrue K0 n).2 K0)

instance (l : List Int) : Decidable (okW l) := by unfold okW; infer_instance

def l_tutorlaw21_WalkTrue {R : Type} (m : Int) (m_1 : Int) (m_2 : Int) (m_3 : Int) (m_4 : List Int) (m_5 : List Int) (seed : Int) (steps : Int) (stop : Int) (n : Int) (K0 : Bool → Option R) : Option R :=
  bi (decide ((okW m_4 ∧ okW m_5) ∧ (inI stop ∧ inI n ∧ inI m_3))) (K0 true) none

theorem true_last {R : Type} {k K O N : Int} {nx ou : List Int} (F : Fine k K O N nx ou) {stop seed steps : Int} (hsp : 0 ≤ steps ∧ steps ≤ 65536) (K0 : Bool → Option R) :
    ∀ (d i : Nat), i + d = (wordsS stop K seed steps).length → Reach (fun m => (run_tutorlaw21_WalkTrue K0 m).2 steps (lensS ((wordsS stop K seed steps).take i) : Int) i k K O N nx ou (wordsS stop K seed steps)
      (toldS K nx N (wordsS stop K seed steps)).2.1 (toldS K nx N (wordsS stop K seed steps)).2.2) (K0 true) := by
  have hN := F.fN
  have hK := F.fK
  have hNK := mulK ⟨hN, hK⟩
  have hx := F.fnx
  obtain ⟨w1, w2, w3⟩ := wordsS_ok (stop := stop) (seed := seed) (steps := steps) hK
  have tl : ∀ i, lensS ((wordsS stop K seed steps).take i) ≤ steps.toNat := fun i => by
    have h : (wordsS stop K seed steps).take i ++ (wordsS stop K seed steps).drop i = wordsS stop K seed steps := List.take_append_drop _ _
    have : lensS ((wordsS stop K seed steps).take i) + lensS ((wordsS stop K seed steps).drop i) = lensS (wordsS stop K seed steps) := by
      conv => rhs; rw [← h]
      unfold lensS
      rw [List.map_append, List.sum_append]
    omega
  intro d
  induction d with
  | zero =>
    intro i hi
    have T := told_sane F (ws := wordsS stop K seed steps) fun w hw => (w1 w hw).2
    refine .now fun m => ?_
    rw [show (run_tutorlaw21_WalkTrue K0 (m + 1)).2 = s_tutorlaw21_WalkTrue_17 (run_tutorlaw21_WalkTrue K0 m).1 (run_tutorlaw21_WalkTrue K0 m).2 K0 from rfl]
    unfold s_tutorlaw21_WalkTrue_17
    rw [br_neg (by omega), List.take_of_length_le (by omega), br_eq (by omega), told_eq F (by omega) w1]
    try dsimp only
    unfold l_tutorref21_Same
    have h1 : shortR (wordsS stop K seed steps) := ⟨by unfold short; omega, fun w hw => by
      have := (w1 w hw).1
      unfold short
      omega⟩
    have h2 := T.2.1
    have h3 := T.2.2
    rw [lists_eq h1, decide_eq_true rfl]
    try dsimp only
    rw [br_tt, same_eq (by unfold short; omega), decide_eq_true rfl]
    try dsimp only
    rw [br_tt, same_eq (by unfold short; omega), decide_eq_true rfl]
    try dsimp only
    rw [br_tt, live21]
  | succ d ih =>
    intro i hi
    have hi' : i < (wordsS stop K seed steps).length := by omega
    have hw := w1 _ (List.getElem_mem hi')
    have hs : lensS ((wordsS stop K seed steps).take (i + 1)) = lensS ((wordsS stop K seed steps).take i) + (wordsS stop K seed steps)[i].length := by
      rw [List.take_add_one, List.getElem?_eq_getElem hi']
      exact lensS_snoc _ _
    have := tl (i + 1)
    refine .step (fun m => ?_) (ih (i + 1) (by omega))
    rw [show (run_tutorlaw21_WalkTrue K0 (m + 1)).2 = s_tutorlaw21_WalkTrue_17 (run_tutorlaw21_WalkTrue K0 m).1 (run_tutorlaw21_WalkTrue K0 m).2 K0 from rfl]
    unfold s_tutorlaw21_WalkTrue_17 l_tutorref01_Check
    have p1 : 0 ≤ (i : Int) ∧ (i : Int) < (((wordsS stop K seed steps).length : Nat) : Int) := by omega
    rw [br_pos (by omega), br_pos p1, Int.toNat_natCast, getD_of [] hi']
    try dsimp only
    rw [br_ne' (wordS_zero.2 ⟨hK, hw⟩), br_pos p1, wr ((i : Int) + 1) (by omega) (by omega), wr _ (by omega) (by omega), hs]
    rfl

def sgoI (n : Int) : Nat → Int → Int
  | 0, x => x
  | i + 1, x => (intS n (sgoI n i x)).2

theorem big_all {R : Type} (k K O N : Int) (nx ou : List Int) (states : Int) :
    (∀ K0 : Bool → Option R, l_tutorref03_Big k K O N nx ou states K0 = K0 true) ∨ (N ≤ states ∧ nx.length ≤ 70000 ∧ ou.length ≤ 70000 ∧ ∀ K0 : Bool → Option R, l_tutorref03_Big k K O N nx ou states K0 = K0 false) := by
  unfold l_tutorref03_Big
  by_cases h1 : N > states
  · exact .inl fun K0 => by rw [br_pos h1]
  simp only [br_neg h1]
  by_cases h2 : (nx.length : Int) > 70000
  · exact .inl fun K0 => by rw [br_pos h2]
  simp only [br_neg h2]
  by_cases h3 : (ou.length : Int) > 70000
  · exact .inl fun K0 => by rw [decide_eq_true h3]
  · exact .inr ⟨by omega, by omega, by omega, fun K0 => by rw [decide_eq_false h3]⟩

theorem ok_tutorlaw21_WalkTrue {R : Type} (m : Int) (m_1 : Int) (m_2 : Int) (m_3 : Int) (m_4 : List Int) (m_5 : List Int) (seed : Int) (steps : Int) (stop : Int) (n : Int) (K0 : Bool → Option R) {r : R} (h : l_tutorlaw21_WalkTrue m m_1 m_2 m_3 m_4 m_5 seed steps stop n K0 = some r) :
    ∃ fuel, e_tutorlaw21_WalkTrue (run_tutorlaw21_WalkTrue K0 fuel).1 (run_tutorlaw21_WalkTrue K0 fuel).2 K0 m m_1 m_2 m_3 m_4 m_5 seed steps stop n = some r := by
  unfold l_tutorlaw21_WalkTrue at h
  rcases bi_some h with ⟨hs, h'⟩ | ⟨_, h'⟩
  · obtain ⟨⟨ow1, ow2⟩, hst, hn, hN⟩ := of_decide_eq_true hs
    rw [← h']
    unfold e_tutorlaw21_WalkTrue
    rcases big_all (R := R) m m_1 m_2 m_3 m_4 m_5 60 with hb | ⟨b1, h1, h2, hb⟩
    · exact ⟨0, by rw [hb, br_tt, live21]⟩
    simp only [hb, br_ff]
    by_cases hl : steps > 2000
    · exact ⟨0, by rw [br_pos hl, live21]⟩
    simp only [br_neg hl, new_eq]
    have o1 : okL m_4 := ow1.okL (by unfold short; omega)
    have o2 : okL m_5 := ow2.okL (by unfold short; omega)
    have fin : Reach (fun f => (run_tutorlaw21_WalkTrue K0 f).1 seed steps stop n 20 m m_1 m_2 m_3 m_4 m_5 (sgoI n 20 (if seed = 0 then 88172645463325252 else seed)) (sgoI n 20 (if seed = 0 then 88172645463325252 else seed))) (K0 true) := by
      by_cases c1 : (checkR m m_1 m_2 m_3 m_4 m_5).2 ≠ 0 ∨ steps < 0 ∨ stop < 1
      · have e : (strollS m m_1 m_2 m_3 m_4 m_5 seed steps stop).1 ≠ 0 ∧ (strollS m m_1 m_2 m_3 m_4 m_5 seed steps stop).2 = ([], [], []) := by
          unfold strollS
          by_cases c2 : (checkR m m_1 m_2 m_3 m_4 m_5).2 ≠ 0
          · rw [if_pos c2]
            exact ⟨c2, rfl⟩
          · rw [if_neg c2, if_pos (by omega)]
            exact ⟨by decide, rfl⟩
        refine .now fun f => ?_
        rw [show (run_tutorlaw21_WalkTrue K0 (f + 1)).1 = s_tutorlaw21_WalkTrue_7 (run_tutorlaw21_WalkTrue K0 f).1 (run_tutorlaw21_WalkTrue K0 f).2 K0 from rfl]
        unfold s_tutorlaw21_WalkTrue_7 l_tutorlaw21_num
        rw [br_neg (by omega), stroll_eq o1 o2 hst, e.2]
        try dsimp only
        rw [br_ne e.1, live21]
        rfl
      · have F : Fine m m_1 m_2 m_3 m_4 m_5 := checkR_fine.1 (by omega)
        have e : strollS m m_1 m_2 m_3 m_4 m_5 seed steps stop = (0, wordsS stop m_1 seed steps, (toldS m_1 m_4 m_3 (wordsS stop m_1 seed steps)).2.1, (toldS m_1 m_4 m_3 (wordsS stop m_1 seed steps)).2.2) := by
          unfold strollS
          rw [if_neg (by omega), if_neg (by omega), if_neg (by omega)]
        refine .step (fun f => ?_) (true_last F (stop := stop) (seed := seed) (steps := steps) (by omega) K0 _ 0 (Nat.zero_add _))
        rw [show (run_tutorlaw21_WalkTrue K0 (f + 1)).1 = s_tutorlaw21_WalkTrue_7 (run_tutorlaw21_WalkTrue K0 f).1 (run_tutorlaw21_WalkTrue K0 f).2 K0 from rfl]
        unfold s_tutorlaw21_WalkTrue_7 l_tutorlaw21_num
        rw [br_neg (by omega), stroll_eq o1 o2 hst, e]
        try dsimp only
        rw [br_ne' rfl]
        rfl
    have loop : ∀ (d i : Nat), i + d = 20 → Reach (fun f => (run_tutorlaw21_WalkTrue K0 f).1 seed steps stop n i m m_1 m_2 m_3 m_4 m_5 (sgoI n i (if seed = 0 then 88172645463325252 else seed)) (sgoI n i (if seed = 0 then 88172645463325252 else seed))) (K0 true) := by
      intro d
      induction d with
      | zero =>
        intro i hi
        have : i = 20 := by omega
        subst this
        exact fin
      | succ d ih =>
        intro i hi
        refine .step (fun f => ?_) (ih (i + 1) (by omega))
        rw [show (run_tutorlaw21_WalkTrue K0 (f + 1)).1 = s_tutorlaw21_WalkTrue_7 (run_tutorlaw21_WalkTrue K0 f).1 (run_tutorlaw21_WalkTrue K0 f).2 K0 from rfl]
        unfold s_tutorlaw21_WalkTrue_7
        rw [br_pos (by omega), walkInt_eq hn]
        try dsimp only
        rw [walkInt_eq hn]
        try dsimp only
        rw [br_ne' rfl, wr ((i : Int) + 1) (by omega) (by omega)]
        rw [show sgoI n (i + 1) (if seed = 0 then 88172645463325252 else seed) = (intS n (sgoI n i (if seed = 0 then 88172645463325252 else seed))).2 from rfl]
        by_cases c : n < 1
        · have e := intS_zero (x := sgoI n i (if seed = 0 then 88172645463325252 else seed)) c
          rw [e]
          try dsimp only
          rw [br_neg (by omega), br_neg (by omega), br_pos c, br_ne' rfl]
          rfl
        · have e := intS_in (x := sgoI n i (if seed = 0 then 88172645463325252 else seed)) (show 1 ≤ n by omega) hn
          rw [br_neg (by omega), br_pos (by omega), br_neg (by omega), br_neg c]
          rfl
    obtain ⟨f, hf⟩ := (loop 20 0 rfl).get
    exact ⟨f, hf⟩
  · cases h'

theorem law_tutorlaw21_WalkTrue {R : Type} (k K O N : Int) (nx ou : List Int) (seed steps stop n : Int) (K0 : Bool → Option R) (hk : inI k) (hK : inI K) (hO : inI O) (hN : inI N) (hn : okW nx) (ho : okW ou) (hse : inU seed) (hsp : inI steps) (hst : inI stop) (hnn : inI n) :
    l_tutorlaw21_WalkTrue k K O N nx ou seed steps stop n K0 = K0 true := by
  unfold l_tutorlaw21_WalkTrue
  rw [br_pos ⟨⟨hn, ho⟩, hst, hnn, hN⟩]

end
end Go.Ev
