/- Functions of the program, as trees of tests over numbers and lists; no program in sight. -/
import Derived.Test.YtdnjhojjicjndaaEvMach
import Derived.Test.YtdnjhojjicjndaaEvWord
import Derived.Test.YtdnjhojjicjndaaEvWalk21
import Derived.Test.YtdnjhojjicjndaaEvTrip
namespace Go.Ev
noncomputable section
set_option linter.unusedVariables false
set_option linter.unusedSimpArgs false
set_option maxRecDepth 100000
set_option maxHeartbeats 4000000

abbrev LT_tutorref03_Big := {R : Type} → Int → Int → Int → Int → (List Int) → (List Int) → Int → (Bool → Option R) → Option R
/-- tutor/tutorref03.Big -/
def l_tutorref03_Big {R : Type} (m m_1 m_2 m_3 : Int) (m_4 m_5 : List Int) (states : Int) (K0 : Bool → Option R) : Option R :=
  bi (decide (m_3 > states))
   (K0 true)
   (bi (decide ((m_4.length : Int) > 70000))
    (K0 true)
    (K0 (decide ((m_5.length : Int) > 70000))))

theorem big_cases {R : Type} (k K O N : Int) (nx ou : List Int) (states : Int) (K0 : Bool → Option R) :
    (l_tutorref03_Big k K O N nx ou states K0 = K0 true) ∨ (N ≤ states ∧ nx.length ≤ 70000 ∧ ou.length ≤ 70000 ∧ l_tutorref03_Big k K O N nx ou states K0 = K0 false) := by
  unfold l_tutorref03_Big
  by_cases h1 : N > states
  · exact .inl (by rw [br_pos h1])
  rw [br_neg h1]
  by_cases h2 : (nx.length : Int) > 70000
  · exact .inl (by rw [br_pos h2])
  rw [br_neg h2]
  by_cases h3 : (ou.length : Int) > 70000
  · exact .inl (by rw [decide_eq_true h3])
  · exact .inr ⟨by omega, by omega, by omega, by rw [decide_eq_false h3]⟩
theorem big_f {R : Type} {k K O N : Int} {nx ou : List Int} {states : Int} (h : N ≤ states ∧ nx.length ≤ 70000 ∧ ou.length ≤ 70000) (K0 : Bool → Option R) : l_tutorref03_Big k K O N nx ou states K0 = K0 false := by
  unfold l_tutorref03_Big
  rw [br_neg (by omega), br_neg (by omega), decide_eq_false (by omega)]
theorem big_t {R : Type} {k K O N : Int} {nx ou : List Int} {states : Int} (h : ¬ (N ≤ states ∧ nx.length ≤ 70000 ∧ ou.length ≤ 70000)) (K0 : Bool → Option R) : l_tutorref03_Big k K O N nx ou states K0 = K0 true := by
  rcases big_cases k K O N nx ou states K0 with h' | ⟨a, b, c, _⟩
  · exact h'
  · exact absurd ⟨a, b, c⟩ h

abbrev LT_walk_New := {R : Type} → Int → (Int → Option R) → Option R
/-- tutor/walk.New -/
def l_walk_New {R : Type} (seed : Int) (K0 : Int → Option R) : Option R :=
  bi (seed == 0)
   (K0 88172645463325252)
   (K0 seed)

theorem new_eq {R : Type} (seed : Int) (K0 : Int → Option R) : l_walk_New seed K0 = K0 (if seed = 0 then 88172645463325252 else seed) := by
  unfold l_walk_New
  by_cases h : seed = 0
  · rw [br_eq h, if_pos h]
  · rw [br_eq' h, if_neg h]

abbrev LT_tutorref21_Int := {R : Type} → Int → Int → (Int → Int → Option R) → Option R
/-- tutor/tutorref21.Int -/
def l_tutorref21_Int {R : Type} (x n : Int) (K0 : Int → Int → Option R) : Option R :=
  bi (decide (n < 1))
   (K0 0 x)
   (bi (decide ((IntKind.u64.wrap n) = 0))
    none
    (K0 (IntKind.i64.wrap (((IntKind.u64.wrap ((IntKind.u64.wrap (BitVec.ofInt 64 (IntKind.u64.wrap (BitVec.ofInt 64 (IntKind.u64.wrap (BitVec.ofInt 64 x ^^^ BitVec.ofInt 64 (x.fdiv (2 ^ (min (12 : Int).toNat 64)))).toNat) ^^^ BitVec.ofInt 64 (IntKind.u64.wrap ((IntKind.u64.wrap (BitVec.ofInt 64 x ^^^ BitVec.ofInt 64 (x.fdiv (2 ^ (min (12 : Int).toNat 64)))).toNat) * 2 ^ (min (25 : Int).toNat 64)))).toNat) ^^^ BitVec.ofInt 64 ((IntKind.u64.wrap (BitVec.ofInt 64 (IntKind.u64.wrap (BitVec.ofInt 64 x ^^^ BitVec.ofInt 64 (x.fdiv (2 ^ (min (12 : Int).toNat 64)))).toNat) ^^^ BitVec.ofInt 64 (IntKind.u64.wrap ((IntKind.u64.wrap (BitVec.ofInt 64 x ^^^ BitVec.ofInt 64 (x.fdiv (2 ^ (min (12 : Int).toNat 64)))).toNat) * 2 ^ (min (25 : Int).toNat 64)))).toNat).fdiv (2 ^ (min (27 : Int).toNat 64)))).toNat) * 2685821657736338717)).fdiv (2 ^ (min (33 : Int).toNat 64))).tmod (IntKind.u64.wrap n))) (IntKind.u64.wrap (BitVec.ofInt 64 (IntKind.u64.wrap (BitVec.ofInt 64 (IntKind.u64.wrap (BitVec.ofInt 64 x ^^^ BitVec.ofInt 64 (x.fdiv (2 ^ (min (12 : Int).toNat 64)))).toNat) ^^^ BitVec.ofInt 64 (IntKind.u64.wrap ((IntKind.u64.wrap (BitVec.ofInt 64 x ^^^ BitVec.ofInt 64 (x.fdiv (2 ^ (min (12 : Int).toNat 64)))).toNat) * 2 ^ (min (25 : Int).toNat 64)))).toNat) ^^^ BitVec.ofInt 64 ((IntKind.u64.wrap (BitVec.ofInt 64 (IntKind.u64.wrap (BitVec.ofInt 64 x ^^^ BitVec.ofInt 64 (x.fdiv (2 ^ (min (12 : Int).toNat 64)))).toNat) ^^^ BitVec.ofInt 64 (IntKind.u64.wrap ((IntKind.u64.wrap (BitVec.ofInt 64 x ^^^ BitVec.ofInt 64 (x.fdiv (2 ^ (min (12 : Int).toNat 64)))).toNat) * 2 ^ (min (25 : Int).toNat 64)))).toNat).fdiv (2 ^ (min (27 : Int).toNat 64)))).toNat)))

theorem refInt_eq {R : Type} {n x : Int} (hn : inI n) (K0 : Int → Int → Option R) : l_tutorref21_Int x n K0 = K0 (intS n x).1 (intS n x).2 := by
  obtain ⟨_, h2⟩ := hn
  unfold l_tutorref21_Int intS
  by_cases h : n < 1
  · rw [br_pos h, if_pos h]
  · rw [br_neg h, if_neg h]
    rw [br_neg (by rw [wru, Int.emod_eq_of_lt (by omega) (by omega)]; omega)]
    rfl

abbrev LT_walk_source_draw := {R : Type} → Int → (Int → Int → Option R) → Option R
/-- (*tutor/walk.source).draw -/
def l_walk_source_draw {R : Type} (o0 : Int) (K0 : Int → Int → Option R) : Option R :=
  K0 ((IntKind.u64.wrap ((IntKind.u64.wrap (BitVec.ofInt 64 (IntKind.u64.wrap (BitVec.ofInt 64 (IntKind.u64.wrap (BitVec.ofInt 64 o0 ^^^ BitVec.ofInt 64 (o0.fdiv (2 ^ (min (12 : Int).toNat 64)))).toNat) ^^^ BitVec.ofInt 64 (IntKind.u64.wrap ((IntKind.u64.wrap (BitVec.ofInt 64 o0 ^^^ BitVec.ofInt 64 (o0.fdiv (2 ^ (min (12 : Int).toNat 64)))).toNat) * 2 ^ (min (25 : Int).toNat 64)))).toNat) ^^^ BitVec.ofInt 64 ((IntKind.u64.wrap (BitVec.ofInt 64 (IntKind.u64.wrap (BitVec.ofInt 64 o0 ^^^ BitVec.ofInt 64 (o0.fdiv (2 ^ (min (12 : Int).toNat 64)))).toNat) ^^^ BitVec.ofInt 64 (IntKind.u64.wrap ((IntKind.u64.wrap (BitVec.ofInt 64 o0 ^^^ BitVec.ofInt 64 (o0.fdiv (2 ^ (min (12 : Int).toNat 64)))).toNat) * 2 ^ (min (25 : Int).toNat 64)))).toNat).fdiv (2 ^ (min (27 : Int).toNat 64)))).toNat) * 2685821657736338717)).fdiv (2 ^ (min (33 : Int).toNat 64))) (IntKind.u64.wrap (BitVec.ofInt 64 (IntKind.u64.wrap (BitVec.ofInt 64 (IntKind.u64.wrap (BitVec.ofInt 64 o0 ^^^ BitVec.ofInt 64 (o0.fdiv (2 ^ (min (12 : Int).toNat 64)))).toNat) ^^^ BitVec.ofInt 64 (IntKind.u64.wrap ((IntKind.u64.wrap (BitVec.ofInt 64 o0 ^^^ BitVec.ofInt 64 (o0.fdiv (2 ^ (min (12 : Int).toNat 64)))).toNat) * 2 ^ (min (25 : Int).toNat 64)))).toNat) ^^^ BitVec.ofInt 64 ((IntKind.u64.wrap (BitVec.ofInt 64 (IntKind.u64.wrap (BitVec.ofInt 64 o0 ^^^ BitVec.ofInt 64 (o0.fdiv (2 ^ (min (12 : Int).toNat 64)))).toNat) ^^^ BitVec.ofInt 64 (IntKind.u64.wrap ((IntKind.u64.wrap (BitVec.ofInt 64 o0 ^^^ BitVec.ofInt 64 (o0.fdiv (2 ^ (min (12 : Int).toNat 64)))).toNat) * 2 ^ (min (25 : Int).toNat 64)))).toNat).fdiv (2 ^ (min (27 : Int).toNat 64)))).toNat)

abbrev LT_walk_Walk_Int := {R : Type} → Int → Int → (Int → Int → Option R) → Option R
/-- (*tutor/walk.Walk).Int -/
def l_walk_Walk_Int {R : Type} (n o0 : Int) (K0 : Int → Int → Option R) : Option R :=
  bi (decide (n < 1))
   (K0 0 o0)
   (l_walk_source_draw o0
    (fun r1 r2 =>
     bi (decide ((IntKind.u64.wrap n) = 0))
      none
      (K0 (IntKind.i64.wrap (r1.tmod (IntKind.u64.wrap n))) r2)))

theorem walkInt_eq {R : Type} {n x : Int} (hn : inI n) (K0 : Int → Int → Option R) : l_walk_Walk_Int n x K0 = K0 (intS n x).1 (intS n x).2 := by
  obtain ⟨_, h2⟩ := hn
  unfold l_walk_Walk_Int l_walk_source_draw intS
  by_cases h : n < 1
  · rw [br_pos h, if_pos h]
  · rw [br_neg h, if_neg h]
    dsimp only
    rw [br_neg (by rw [wru, Int.emod_eq_of_lt (by omega) (by omega)]; omega)]
    rfl

abbrev LT_tutorlaw21_live := {R : Type} → (Bool → Option R) → Option R
/-- tutor/tutorlaw21.live -/
def l_tutorlaw21_live {R : Type}  (K0 : Bool → Option R) : Option R :=
  l_walk_New 1
   (fun r1 =>
    l_tutorref21_Int 1 1000
     (fun r2 r3 =>
      l_tutorref21_Int r3 1000
       (fun r4 r5 =>
        l_walk_Walk_Int 1000 r1
         (fun r6 r7 =>
          bi (r6 == r2)
           (l_walk_Walk_Int 1000 r7
            (fun r8 r9 =>
             bi (r8 == r4)
              (K0 (r2 != r4))
              (K0 false)))
           (K0 false)))))

theorem live21 {R : Type} (K0 : Bool → Option R) : l_tutorlaw21_live K0 = K0 true := by
  unfold l_tutorlaw21_live l_walk_New
  rw [br_eq' (by decide)]
  dsimp only
  rw [refInt_eq (by decide)]
  try dsimp only
  rw [refInt_eq (by decide)]
  try dsimp only
  rw [walkInt_eq (by decide)]
  try dsimp only
  rw [br_eq rfl, walkInt_eq (by decide)]
  try dsimp only
  rw [br_eq rfl]
  have e : ((intS 1000 1).1 != (intS 1000 (intS 1000 1).2).1) = true := by kernel_rfl
  rw [e]

abbrev LT_tutorref03_Copy := {R : Type} → Int → Int → Int → Int → (List Int) → (List Int) → (Int → Int → Int → Int → (List Int) → (List Int) → Option R) → Option R
/-- tutor/tutorref03.Copy -/
def l_tutorref03_Copy {R : Type} (m m_1 m_2 m_3 : Int) (m_4 m_5 : List Int) (K0 : Int → Int → Int → Int → (List Int) → (List Int) → Option R) : Option R :=
  bi (decide ((([] : List Int).length + m_4.length) * 8 ≤ lim))
   (bi (decide ((([] : List Int).length + m_5.length) * 8 ≤ lim))
    (K0 m m_1 m_2 m_3 (([] : List Int) ++ m_4) (([] : List Int) ++ m_5))
    none)
   none

theorem copy_eq {R : Type} {k K O N : Int} {nx ou : List Int} (h1 : nx.length ≤ 70000) (h2 : ou.length ≤ 70000) (K0 : Int → Int → Int → Int → List Int → List Int → Option R) :
    l_tutorref03_Copy k K O N nx ou K0 = K0 k K O N nx ou := by
  unfold l_tutorref03_Copy
  rw [br_pos (by simp [lim]; omega), br_pos (by simp [lim]; omega)]
  rfl

abbrev LT_machine_says := {R : Type} → Int → Int → Int → Int → (List Int) → (List Int) → (Int → Option R) → Option R
/-- tutor/machine.says -/
def l_machine_says {R : Type} (m m_1 m_2 m_3 : Int) (m_4 m_5 : List Int) (K0 : Int → Option R) : Option R :=
  bi (m == 1)
   (K0 m_3)
   (K0 (IntKind.i64.wrap (m_3 * m_1)))

abbrev LT_machine_head := {R : Type} → Int → Int → Int → Int → (List Int) → (List Int) → (Int → Option R) → Option R
/-- tutor/machine.head -/
def l_machine_head {R : Type} (m m_1 m_2 m_3 : Int) (m_4 m_5 : List Int) (K0 : Int → Option R) : Option R :=
  bi (m != 1)
   (bi (m != 2)
    (K0 30)
    (bi (decide (m_1 < 1))
     (K0 1)
     (bi (decide (m_1 > 64))
      (K0 1)
      (bi (m == 1)
       (bi (m_2 != 2)
        (K0 33)
        (bi (decide (m_2 < 1))
         (K0 33)
         (bi (decide (m_2 > 64))
          (K0 33)
          (bi (decide (m_3 < 1))
           (K0 3)
           (bi (decide (m_3 > 1024))
            (K0 3)
            (bi ((m_4.length : Int) != (IntKind.i64.wrap (m_3 * m_1)))
             (K0 31)
             (l_machine_says m m_1 m_2 m_3 m_4 m_5
              (fun r1 =>
               bi ((m_5.length : Int) != r1)
                (K0 31)
                (K0 0)))))))))
       (bi (decide (m_2 < 1))
        (K0 33)
        (bi (decide (m_2 > 64))
         (K0 33)
         (bi (decide (m_3 < 1))
          (K0 3)
          (bi (decide (m_3 > 1024))
           (K0 3)
           (bi ((m_4.length : Int) != (IntKind.i64.wrap (m_3 * m_1)))
            (K0 31)
            (l_machine_says m m_1 m_2 m_3 m_4 m_5
             (fun r2 =>
              bi ((m_5.length : Int) != r2)
               (K0 31)
               (K0 0))))))))))))
   (bi (decide (m_1 < 1))
    (K0 1)
    (bi (decide (m_1 > 64))
     (K0 1)
     (bi (m == 1)
      (bi (m_2 != 2)
       (K0 33)
       (bi (decide (m_2 < 1))
        (K0 33)
        (bi (decide (m_2 > 64))
         (K0 33)
         (bi (decide (m_3 < 1))
          (K0 3)
          (bi (decide (m_3 > 1024))
           (K0 3)
           (bi ((m_4.length : Int) != (IntKind.i64.wrap (m_3 * m_1)))
            (K0 31)
            (l_machine_says m m_1 m_2 m_3 m_4 m_5
             (fun r3 =>
              bi ((m_5.length : Int) != r3)
               (K0 31)
               (K0 0)))))))))
      (bi (decide (m_2 < 1))
       (K0 33)
       (bi (decide (m_2 > 64))
        (K0 33)
        (bi (decide (m_3 < 1))
         (K0 3)
         (bi (decide (m_3 > 1024))
          (K0 3)
          (bi ((m_4.length : Int) != (IntKind.i64.wrap (m_3 * m_1)))
           (K0 31)
           (l_machine_says m m_1 m_2 m_3 m_4 m_5
            (fun r4 =>
             bi ((m_5.length : Int) != r4)
              (K0 31)
              (K0 0)))))))))))

theorem head_eq {R : Type} (k K O N : Int) (nx ou : List Int) (K0 : Int → Option R) : l_machine_head k K O N nx ou K0 = K0 (headS k K O N nx ou) := by
  unfold l_machine_head l_machine_says headS
  simp only [br_if, bne_iff_ne, beq_iff_eq, decide_eq_true_eq, ne_eq]
  by_cases hb : (1 ≤ N ∧ N ≤ 1024) ∧ 1 ≤ K ∧ K ≤ 64
  · have := mulK hb
    rw [wr (N * K) (by omega) (by omega)]
    repeat' (refine ite_l (fun _ => ?_) (fun _ => ?_))
    all_goals
      refine congrArg K0 ?_
      repeat' (refine ite_r (fun _ => ?_) (fun _ => ?_))
      all_goals omega
  · repeat' (refine ite_l (fun _ => ?_) (fun _ => ?_))
    all_goals
      refine congrArg K0 ?_
      repeat' (refine ite_r (fun _ => ?_) (fun _ => ?_))
      all_goals omega

abbrev LT_machine_beyond := {R : Type} → (List Int) → Int → (Int → Option R) → Option R
abbrev GT_machine_beyond_2 (R : Type) := (List Int) → Int → Int → Int → Option R
/-- tutor/machine.beyond -/
def s_machine_beyond_2 {R : Type} (g50_2 : GT_machine_beyond_2 R) (K0 : Int → Option R) (l : List Int) (n x7 x8 : Int) : Option R :=
  bi (decide (x8 < x7))
   (bi (decide (0 ≤ x8 ∧ x8 < ((l.length : Nat) : Int)))
    (bi (decide ((IntKind.u64.wrap (l.getD x8.toNat 0)) ≥ (IntKind.u64.wrap n)))
     (K0 x8)
     (g50_2 l n x7 (IntKind.i64.wrap (x8 + 1))))
    none)
   (K0 (-1))

/-- tutor/machine.beyond -/
def e_machine_beyond {R : Type} (g50_2 : GT_machine_beyond_2 R) (K0 : Int → Option R) (l : List Int) (n : Int) : Option R :=
  g50_2 l n (l.length : Int) 0

def run_machine_beyond {R : Type} (K0 : Int → Option R) : Nat → (List Int) → Int → Int → Int → Option R
  | 0 => fun _ _ _ _ => none
  | n + 1 => s_machine_beyond_2 (run_machine_beyond K0 n) K0

def l_machine_beyond {R : Type} (l : List Int) (n : Int) (K0 : Int → Option R) : Option R := bi (decide (short l)) (K0 (beyondS n l)) none

theorem ok_machine_beyond {R : Type} (l : List Int) (n : Int) (K0 : Int → Option R) {r : R} (h : l_machine_beyond l n K0 = some r) : ∃ fuel, e_machine_beyond (run_machine_beyond K0 fuel) K0 l n = some r := by
  unfold l_machine_beyond at h
  rcases bi_some h with ⟨hs, h⟩ | ⟨_, h⟩
  · have hs : l.length < 4611686018427387904 := of_decide_eq_true hs
    refine ⟨l.length + 1, ?_⟩
    rw [← h]
    have key := scan_all (F := fun m i => run_machine_beyond K0 m l n (l.length : Int) (i : Int)) (bad n) (l := l) (A := fun i => K0 i) (B := K0 (-1))
      (fun m => by
        show s_machine_beyond_2 _ _ _ _ _ _ = _
        unfold s_machine_beyond_2
        rw [br_neg (by omega)])
      (fun m i hi => by
        show s_machine_beyond_2 _ _ _ _ _ _ = _
        unfold s_machine_beyond_2
        rw [br_pos (by omega), br_pos (by omega), br_if, Int.toNat_natCast, getD_of 0 hi, wr _ (by omega) (by omega)]
        rfl)
    unfold e_machine_beyond beyondS
    refine key.trans ?_
    cases findP (bad n) l <;> rfl
  · cases h

abbrev LT_machine_Check := {R : Type} → Int → Int → Int → Int → (List Int) → (List Int) → (Int → Int → Option R) → Option R
/-- tutor/machine.Check -/
def l_machine_Check {R : Type} (m m_1 m_2 m_3 : Int) (m_4 m_5 : List Int) (K0 : Int → Int → Option R) : Option R :=
  l_machine_head m m_1 m_2 m_3 m_4 m_5
   (fun r1 =>
    bi (r1 != 0)
     (K0 0 r1)
     (l_machine_beyond m_4 m_3
      (fun r2 =>
       bi (decide (r2 ≥ 0))
        (K0 r2 32)
        (l_machine_beyond m_5 m_2
         (fun r3 =>
          bi (decide (r3 ≥ 0))
           (K0 r3 33)
           (K0 0 0))))))

theorem check_eq {R : Type} (k K O N : Int) (nx ou : List Int) (h1 : short nx) (h2 : short ou) (K0 : Int → Int → Option R) :
    l_machine_Check k K O N nx ou K0 = K0 (checkS k K O N nx ou).1 (checkS k K O N nx ou).2 := by
  unfold l_machine_Check checkS l_machine_beyond beyondS
  rw [head_eq]
  by_cases h : headS k K O N nx ou = 0
  · rw [br_ne' h, if_neg (by simpa using h), br_pos h1]
    cases hf : findP (bad N) nx with
    | some i => simp only [br_pos (show ((i : Nat) : Int) ≥ 0 by omega)]
    | none =>
      simp only [br_neg (show ¬ ((-1 : Int) ≥ 0) by omega), br_pos h2]
      cases hg : findP (bad O) ou with
      | some i => simp only [br_pos (show ((i : Nat) : Int) ≥ 0 by omega)]
      | none => simp only [br_neg (show ¬ ((-1 : Int) ≥ 0) by omega)]
  · rw [br_ne h, if_pos (by simpa using h)]

abbrev LT_walk_Stroll := {R : Type} → Int → Int → Int → Int → (List Int) → (List Int) → Int → Int → Int → (Int → (List (List Int)) → (List Int) → (List Int) → Option R) → Option R
abbrev GT_walk_Stroll_14 (R : Type) := Int → Int → Int → Int → Int → Int → Int → Int → (List Int) → (List Int) → (List (List Int)) → (List Int) → (List Int) → Int → (List (List Int)) → (List Int) → (List Int) → (List Int) → Option R
/-- tutor/walk.Stroll -/
def s_walk_Stroll_14 {R : Type} (g24_14 : GT_walk_Stroll_14 R) (K0 : Int → (List (List Int)) → (List Int) → (List Int) → Option R) (stop s x54 x55 o0 o0_1 o0_2 o0_3 : Int) (o0_4 o0_5 : List Int) (o2 : List (List Int)) (o3 o4 : List Int) (o5 : Int) (o7 : List (List Int)) (o8 o9 o10 : List Int) : Option R :=
  bi (decide (x55 < x54))
   (l_walk_Walk_Int stop o5
    (fun r4 r5 =>
     bi (r4 == 0)
      (bi (decide ((o7.length + [o10].length) * 24 ≤ lim))
       (bi (decide (0 ≤ (0 : Int) ∧ (0 : Int) < ((o8.length : Nat) : Int)))
        (bi (decide (0 ≤ (0 : Int) ∧ (0 : Int) < ((o8.length : Nat) : Int)))
         (l_walk_Walk_Int o0_1 r5
          (fun r6 r7 =>
           bi (decide ((([] : List Int).length + [r6].length) * 8 ≤ lim))
            (bi (decide (0 ≤ (IntKind.i64.wrap ((IntKind.i64.wrap (0 * o0_1)) + r6)) ∧ (IntKind.i64.wrap ((IntKind.i64.wrap (0 * o0_1)) + r6)) < ((o9.length : Nat) : Int)))
             (bi (decide (0 ≤ (IntKind.i64.wrap ((IntKind.i64.wrap (0 * o0_1)) + r6)) ∧ (IntKind.i64.wrap ((IntKind.i64.wrap (0 * o0_1)) + r6)) < ((o9.length : Nat) : Int)))
              (bi (decide (0 ≤ (IntKind.i64.wrap ((IntKind.i64.wrap (0 * o0_1)) + r6)) ∧ (IntKind.i64.wrap ((IntKind.i64.wrap (0 * o0_1)) + r6)) < ((o0_4.length : Nat) : Int)))
               (bi (decide (0 ≤ (o0_4.getD ((IntKind.i64.wrap ((IntKind.i64.wrap (0 * o0_1)) + r6)).toNat) 0) ∧ (o0_4.getD ((IntKind.i64.wrap ((IntKind.i64.wrap (0 * o0_1)) + r6)).toNat) 0) < (((o8.set 0 (IntKind.i64.wrap ((o8.getD 0 0) + 1))).length : Nat) : Int)))
                (bi (decide (0 ≤ (o0_4.getD ((IntKind.i64.wrap ((IntKind.i64.wrap (0 * o0_1)) + r6)).toNat) 0) ∧ (o0_4.getD ((IntKind.i64.wrap ((IntKind.i64.wrap (0 * o0_1)) + r6)).toNat) 0) < (((o8.set 0 (IntKind.i64.wrap ((o8.getD 0 0) + 1))).length : Nat) : Int)))
                 (g24_14 stop (o0_4.getD ((IntKind.i64.wrap ((IntKind.i64.wrap (0 * o0_1)) + r6)).toNat) 0) x54 (IntKind.i64.wrap (x55 + 1)) o0 o0_1 o0_2 o0_3 o0_4 o0_5 o2 o3 o4 r7 (o7 ++ [o10]) ((o8.set 0 (IntKind.i64.wrap ((o8.getD 0 0) + 1))).set ((o0_4.getD ((IntKind.i64.wrap ((IntKind.i64.wrap (0 * o0_1)) + r6)).toNat) 0).toNat) (IntKind.i64.wrap (((o8.set 0 (IntKind.i64.wrap ((o8.getD 0 0) + 1))).getD ((o0_4.getD ((IntKind.i64.wrap ((IntKind.i64.wrap (0 * o0_1)) + r6)).toNat) 0).toNat) 0) + 1))) (o9.set ((IntKind.i64.wrap ((IntKind.i64.wrap (0 * o0_1)) + r6)).toNat) (IntKind.i64.wrap ((o9.getD ((IntKind.i64.wrap ((IntKind.i64.wrap (0 * o0_1)) + r6)).toNat) 0) + 1))) (([] : List Int) ++ [r6]))
                 none)
                none)
               none)
              none)
             none)
            none))
         none)
        none)
       none)
      (bi ((o10.length : Int) == 4096)
       (bi (decide ((o7.length + [o10].length) * 24 ≤ lim))
        (bi (decide (0 ≤ (0 : Int) ∧ (0 : Int) < ((o8.length : Nat) : Int)))
         (bi (decide (0 ≤ (0 : Int) ∧ (0 : Int) < ((o8.length : Nat) : Int)))
          (l_walk_Walk_Int o0_1 r5
           (fun r8 r9 =>
            bi (decide ((([] : List Int).length + [r8].length) * 8 ≤ lim))
             (bi (decide (0 ≤ (IntKind.i64.wrap ((IntKind.i64.wrap (0 * o0_1)) + r8)) ∧ (IntKind.i64.wrap ((IntKind.i64.wrap (0 * o0_1)) + r8)) < ((o9.length : Nat) : Int)))
              (bi (decide (0 ≤ (IntKind.i64.wrap ((IntKind.i64.wrap (0 * o0_1)) + r8)) ∧ (IntKind.i64.wrap ((IntKind.i64.wrap (0 * o0_1)) + r8)) < ((o9.length : Nat) : Int)))
               (bi (decide (0 ≤ (IntKind.i64.wrap ((IntKind.i64.wrap (0 * o0_1)) + r8)) ∧ (IntKind.i64.wrap ((IntKind.i64.wrap (0 * o0_1)) + r8)) < ((o0_4.length : Nat) : Int)))
                (bi (decide (0 ≤ (o0_4.getD ((IntKind.i64.wrap ((IntKind.i64.wrap (0 * o0_1)) + r8)).toNat) 0) ∧ (o0_4.getD ((IntKind.i64.wrap ((IntKind.i64.wrap (0 * o0_1)) + r8)).toNat) 0) < (((o8.set 0 (IntKind.i64.wrap ((o8.getD 0 0) + 1))).length : Nat) : Int)))
                 (bi (decide (0 ≤ (o0_4.getD ((IntKind.i64.wrap ((IntKind.i64.wrap (0 * o0_1)) + r8)).toNat) 0) ∧ (o0_4.getD ((IntKind.i64.wrap ((IntKind.i64.wrap (0 * o0_1)) + r8)).toNat) 0) < (((o8.set 0 (IntKind.i64.wrap ((o8.getD 0 0) + 1))).length : Nat) : Int)))
                  (g24_14 stop (o0_4.getD ((IntKind.i64.wrap ((IntKind.i64.wrap (0 * o0_1)) + r8)).toNat) 0) x54 (IntKind.i64.wrap (x55 + 1)) o0 o0_1 o0_2 o0_3 o0_4 o0_5 o2 o3 o4 r9 (o7 ++ [o10]) ((o8.set 0 (IntKind.i64.wrap ((o8.getD 0 0) + 1))).set ((o0_4.getD ((IntKind.i64.wrap ((IntKind.i64.wrap (0 * o0_1)) + r8)).toNat) 0).toNat) (IntKind.i64.wrap (((o8.set 0 (IntKind.i64.wrap ((o8.getD 0 0) + 1))).getD ((o0_4.getD ((IntKind.i64.wrap ((IntKind.i64.wrap (0 * o0_1)) + r8)).toNat) 0).toNat) 0) + 1))) (o9.set ((IntKind.i64.wrap ((IntKind.i64.wrap (0 * o0_1)) + r8)).toNat) (IntKind.i64.wrap ((o9.getD ((IntKind.i64.wrap ((IntKind.i64.wrap (0 * o0_1)) + r8)).toNat) 0) + 1))) (([] : List Int) ++ [r8]))
                  none)
                 none)
                none)
               none)
              none)
             none))
          none)
         none)
        none)
       (l_walk_Walk_Int o0_1 r5
        (fun r10 r11 =>
         bi (decide ((o10.length + [r10].length) * 8 ≤ lim))
          (bi (decide (0 ≤ (IntKind.i64.wrap ((IntKind.i64.wrap (s * o0_1)) + r10)) ∧ (IntKind.i64.wrap ((IntKind.i64.wrap (s * o0_1)) + r10)) < ((o9.length : Nat) : Int)))
           (bi (decide (0 ≤ (IntKind.i64.wrap ((IntKind.i64.wrap (s * o0_1)) + r10)) ∧ (IntKind.i64.wrap ((IntKind.i64.wrap (s * o0_1)) + r10)) < ((o9.length : Nat) : Int)))
            (bi (decide (0 ≤ (IntKind.i64.wrap ((IntKind.i64.wrap (s * o0_1)) + r10)) ∧ (IntKind.i64.wrap ((IntKind.i64.wrap (s * o0_1)) + r10)) < ((o0_4.length : Nat) : Int)))
             (bi (decide (0 ≤ (o0_4.getD ((IntKind.i64.wrap ((IntKind.i64.wrap (s * o0_1)) + r10)).toNat) 0) ∧ (o0_4.getD ((IntKind.i64.wrap ((IntKind.i64.wrap (s * o0_1)) + r10)).toNat) 0) < ((o8.length : Nat) : Int)))
              (bi (decide (0 ≤ (o0_4.getD ((IntKind.i64.wrap ((IntKind.i64.wrap (s * o0_1)) + r10)).toNat) 0) ∧ (o0_4.getD ((IntKind.i64.wrap ((IntKind.i64.wrap (s * o0_1)) + r10)).toNat) 0) < ((o8.length : Nat) : Int)))
               (g24_14 stop (o0_4.getD ((IntKind.i64.wrap ((IntKind.i64.wrap (s * o0_1)) + r10)).toNat) 0) x54 (IntKind.i64.wrap (x55 + 1)) o0 o0_1 o0_2 o0_3 o0_4 o0_5 o2 o3 o4 r11 o7 (o8.set ((o0_4.getD ((IntKind.i64.wrap ((IntKind.i64.wrap (s * o0_1)) + r10)).toNat) 0).toNat) (IntKind.i64.wrap ((o8.getD ((o0_4.getD ((IntKind.i64.wrap ((IntKind.i64.wrap (s * o0_1)) + r10)).toNat) 0).toNat) 0) + 1))) (o9.set ((IntKind.i64.wrap ((IntKind.i64.wrap (s * o0_1)) + r10)).toNat) (IntKind.i64.wrap ((o9.getD ((IntKind.i64.wrap ((IntKind.i64.wrap (s * o0_1)) + r10)).toNat) 0) + 1))) (o10 ++ [r10]))
               none)
              none)
             none)
            none)
           none)
          none)))))
   (bi (decide ((o7.length + [o10].length) * 24 ≤ lim))
    (K0 0 (o7 ++ [o10]) o8 o9)
    none)

/-- tutor/walk.Stroll -/
def e_walk_Stroll {R : Type} (g24_14 : GT_walk_Stroll_14 R) (K0 : Int → (List (List Int)) → (List Int) → (List Int) → Option R) (m m_1 m_2 m_3 : Int) (m_4 m_5 : List Int) (seed steps stop : Int) : Option R :=
  l_machine_Check m m_1 m_2 m_3 m_4 m_5
   (fun r1 r2 =>
    bi (r2 != 0)
     (K0 r2 ([] : List (List Int)) ([] : List Int) ([] : List Int))
     (bi (decide (steps < 0))
      (K0 1 ([] : List (List Int)) ([] : List Int) ([] : List Int))
      (bi (decide (stop < 1))
       (K0 1 ([] : List (List Int)) ([] : List Int) ([] : List Int))
       (bi (decide (steps > 65536))
        (K0 3 ([] : List (List Int)) ([] : List Int) ([] : List Int))
        (l_walk_New seed
         (fun r3 =>
          both
           (bi (decide (0 ≤ m_3 ∧ m_3 ≤ m_3 ∧ m_3 ≤ 1073741824))
            (twice
             (bi (decide (0 ≤ (m_4.length : Int) ∧ (m_4.length : Int) ≤ (m_4.length : Int) ∧ (m_4.length : Int) ≤ 1073741824))
              (bi (decide (0 ≤ (0 : Int) ∧ (0 : Int) < (((List.replicate m_3.toNat (0 : Int)).length : Nat) : Int)))
               (bi (decide (0 ≤ (0 : Int) ∧ (0 : Int) < (((List.replicate m_3.toNat (0 : Int)).length : Nat) : Int)))
                (g24_14 stop 0 steps 0 m m_1 m_2 m_3 m_4 m_5 ([] : List (List Int)) ([] : List Int) ([] : List Int) r3 ([] : List (List Int)) ((List.replicate m_3.toNat (0 : Int)).set 0 (IntKind.i64.wrap (((List.replicate m_3.toNat (0 : Int)).getD 0 0) + 1))) (List.replicate (m_4.length : Int).toNat (0 : Int)) ([] : List Int))
                none)
               none)
              none))
            none)
           (both
            (bi (decide (0 ≤ (m_4.length : Int) ∧ (m_4.length : Int) ≤ (m_4.length : Int) ∧ (m_4.length : Int) ≤ 1073741824))
             (twice
              (bi (decide (0 ≤ m_3 ∧ m_3 ≤ m_3 ∧ m_3 ≤ 1073741824))
               (bi (decide (0 ≤ (0 : Int) ∧ (0 : Int) < (((List.replicate m_3.toNat (0 : Int)).length : Nat) : Int)))
                (bi (decide (0 ≤ (0 : Int) ∧ (0 : Int) < (((List.replicate m_3.toNat (0 : Int)).length : Nat) : Int)))
                 (g24_14 stop 0 steps 0 m m_1 m_2 m_3 m_4 m_5 ([] : List (List Int)) ([] : List Int) ([] : List Int) r3 ([] : List (List Int)) ((List.replicate m_3.toNat (0 : Int)).set 0 (IntKind.i64.wrap (((List.replicate m_3.toNat (0 : Int)).getD 0 0) + 1))) (List.replicate (m_4.length : Int).toNat (0 : Int)) ([] : List Int))
                 none)
                none)
               none))
             none)
            (both
             (bi (decide (0 ≤ m_3 ∧ m_3 ≤ m_3 ∧ m_3 ≤ 1073741824))
              (bi (decide (0 ≤ (m_4.length : Int) ∧ (m_4.length : Int) ≤ (m_4.length : Int) ∧ (m_4.length : Int) ≤ 1073741824))
               (bi (decide (0 ≤ (0 : Int) ∧ (0 : Int) < (((List.replicate m_3.toNat (0 : Int)).length : Nat) : Int)))
                (bi (decide (0 ≤ (0 : Int) ∧ (0 : Int) < (((List.replicate m_3.toNat (0 : Int)).length : Nat) : Int)))
                 (g24_14 stop 0 steps 0 m m_1 m_2 m_3 m_4 m_5 ([] : List (List Int)) ([] : List Int) ([] : List Int) r3 ([] : List (List Int)) ((List.replicate m_3.toNat (0 : Int)).set 0 (IntKind.i64.wrap (((List.replicate m_3.toNat (0 : Int)).getD 0 0) + 1))) (List.replicate (m_4.length : Int).toNat (0 : Int)) ([] : List Int))
                 none)
                none)
               none)
              none)
             (bi (decide (0 ≤ (m_4.length : Int) ∧ (m_4.length : Int) ≤ (m_4.length : Int) ∧ (m_4.length : Int) ≤ 1073741824))
              (bi (decide (0 ≤ m_3 ∧ m_3 ≤ m_3 ∧ m_3 ≤ 1073741824))
               (bi (decide (0 ≤ (0 : Int) ∧ (0 : Int) < (((List.replicate m_3.toNat (0 : Int)).length : Nat) : Int)))
                (bi (decide (0 ≤ (0 : Int) ∧ (0 : Int) < (((List.replicate m_3.toNat (0 : Int)).length : Nat) : Int)))
                 (g24_14 stop 0 steps 0 m m_1 m_2 m_3 m_4 m_5 ([] : List (List Int)) ([] : List Int) ([] : List Int) r3 ([] : List (List Int)) ((List.replicate m_3.toNat (0 : Int)).set 0 (IntKind.i64.wrap (((List.replicate m_3.toNat (0 : Int)).getD 0 0) + 1))) (List.replicate (m_4.length : Int).toNat (0 : Int)) ([] : List Int))
                 none)
                none)
               none)
              none)))))))))

def run_walk_Stroll {R : Type} (K0 : Int → (List (List Int)) → (List Int) → (List Int) → Option R) : Nat → Int → Int → Int → Int → Int → Int → Int → Int → (List Int) → (List Int) → (List (List Int)) → (List Int) → (List Int) → Int → (List (List Int)) → (List Int) → (List Int) → (List Int) → Option R
  | 0 => fun _ _ _ _ _ _ _ _ _ _ _ _ _ _ _ _ _ _ => none
  | n + 1 => s_walk_Stroll_14 (run_walk_Stroll K0 n) K0

/-- What a stroll is: error, words, how often where, which ways how often. -/
def strollS (k K O N : Int) (nx ou : List Int) (seed steps stop : Int) : Int × List (List Int) × List Int × List Int :=
  if (checkR k K O N nx ou).2 ≠ 0 then ((checkR k K O N nx ou).2, [], [], []) else if steps < 0 ∨ stop < 1 then (1, [], [], []) else if steps > 65536 then (3, [], [], []) else
    (0, wordsS stop K seed steps, (toldS K nx N (wordsS stop K seed steps)).2.1, (toldS K nx N (wordsS stop K seed steps)).2.2)

def l_walk_Stroll {R : Type} (m : Int) (m_1 : Int) (m_2 : Int) (m_3 : Int) (m_4 : List Int) (m_5 : List Int) (seed : Int) (steps : Int) (stop : Int) (K0 : Int → (List (List Int)) → (List Int) → (List Int) → Option R) : Option R :=
  bi (decide ((okL m_4 ∧ okL m_5) ∧ inI stop)) (K0 (strollS m m_1 m_2 m_3 m_4 m_5 seed steps stop).1 (strollS m m_1 m_2 m_3 m_4 m_5 seed steps stop).2.1 (strollS m m_1 m_2 m_3 m_4 m_5 seed steps stop).2.2.1 (strollS m m_1 m_2 m_3 m_4 m_5 seed steps stop).2.2.2) none

theorem stroll_run {R : Type} {k K O N : Int} {nx ou : List Int} (F : Fine k K O N nx ou) {stop steps : Int} (hst : inI stop) (hsp : 0 ≤ steps ∧ steps ≤ 65536) (K0 : Int → (List (List Int)) → (List Int) → (List Int) → Option R) :
    ∀ (n i : Nat) (p : SS), (i : Int) + n = steps → Way K i p → tsane nx N (plcS K nx N p.2) →
    Reach (fun m => run_walk_Stroll K0 m stop (plcS K nx N p.2).1 steps i k K O N nx ou [] [] [] p.1 p.2.1 (plcS K nx N p.2).2.1 (plcS K nx N p.2).2.2 p.2.2)
      (K0 0 ((sgo stop K n p).2.1 ++ [(sgo stop K n p).2.2]) (plcS K nx N (sgo stop K n p).2).2.1 (plcS K nx N (sgo stop K n p).2).2.2)
  | 0, i, p, hi, W, T => by
    have h1 := W.few
    refine .now fun m => ?_
    rw [show run_walk_Stroll K0 (m + 1) = s_walk_Stroll_14 (run_walk_Stroll K0 m) K0 from rfl]
    unfold s_walk_Stroll_14
    rw [br_neg (by omega), br_pos (by
      show (p.2.1.length + 1) * 24 ≤ 140737488355328
      omega)]
    rfl
  | n + 1, i, p, hi, W, T => by
    have hN := F.fN
    have hK := F.fK
    have hNK := mulK ⟨hN, hK⟩
    have hx := F.fnx
    have h1 := W.few
    have h0 := W.now.1
    have hc := intS_in (n := K) (x := (intS stop p.1).2) hK.1 ⟨by omega, by omega⟩
    have hTW := turn_way (stop := stop) W
    have T1 : tsane nx N (plcS K nx N (turnS stop p)) := by
      unfold turnS
      by_cases c : (intS stop p.1).1 = 0 ∨ p.2.2.length = 4096
      · rw [if_pos c, plcS_new]
        exact tstart_sane hN.1 T
      · rw [if_neg c]
        exact T
    have ih := stroll_run F hst hsp K0 n (i + 1) (sstep stop K p) (by omega) (sstep_way hK W) (by
      show tsane nx N (plcS K nx N ((turnS stop p).1, (turnS stop p).2 ++ [(intS K (intS stop p.1).2).1]))
      rw [plcS_snoc]
      exact tstep_sane F T1 hc)
    refine .step (fun m => ?_) ih
    rw [show run_walk_Stroll K0 (m + 1) = s_walk_Stroll_14 (run_walk_Stroll K0 m) K0 from rfl]
    show _ = run_walk_Stroll K0 m stop (plcS K nx N ((turnS stop p).1, (turnS stop p).2 ++ [(intS K (intS stop p.1).2).1])).1 steps _ _ _ _ _ _ _ _ _ _ (intS K (intS stop p.1).2).2 (turnS stop p).1 (plcS K nx N ((turnS stop p).1, (turnS stop p).2 ++ [(intS K (intS stop p.1).2).1])).2.1 (plcS K nx N ((turnS stop p).1, (turnS stop p).2 ++ [(intS K (intS stop p.1).2).1])).2.2 ((turnS stop p).2 ++ [(intS K (intS stop p.1).2).1])
    rw [plcS_snoc]
    unfold s_walk_Stroll_14
    rw [br_pos (by omega), walkInt_eq hst, wr ((i : Int) + 1) (by omega) (by omega)]
    try dsimp only
    have hl1 : (p.2.1.length + [p.2.2].length) * 24 ≤ lim := by
      show (p.2.1.length + 1) * 24 ≤ 140737488355328
      omega
    obtain ⟨t1, t2, t3⟩ := T
    have idx := idx_in T1.1 hc
    have T2 := T1.2.1
    have T3 := T1.2.2
    have hn : 0 ≤ nx.getD ((plcS K nx N (turnS stop p)).1 * K + (intS K (intS stop p.1).2).1).toNat 0 ∧ nx.getD ((plcS K nx N (turnS stop p)).1 * K + (intS K (intS stop p.1).2).1).toNat 0 < N := by
      rw [getD_of 0 (by omega)]
      exact F.fnxs _ (List.getElem_mem _)
    have hKI : inI K := ⟨by omega, by omega⟩
    by_cases c : (intS stop p.1).1 = 0 ∨ p.2.2.length = 4096
    · have e : turnS stop p = (p.2.1 ++ [p.2.2], []) := by unfold turnS; rw [if_pos c]
      rw [e] at T2 T3 idx hn ⊢
      rw [plcS_new, show (p.2.1, p.2.2) = p.2 from rfl] at T2 T3 idx hn ⊢
      dsimp only at T2 T3 idx hn ⊢
      have p0 : 0 ≤ (0 : Int) ∧ (0 : Int) < (((plcS K nx N p.2).2.1.length : Nat) : Int) := by omega
      have hcut : ∀ X : Option R, bi ((intS stop p.1).1 == 0) X (bi ((p.2.2.length : Int) == 4096) X none) = X := fun X => by
        by_cases c1 : (intS stop p.1).1 = 0
        · rw [br_eq c1]
        · rw [br_eq' c1, br_eq (by omega)]
      have two : ∀ X Y : Option R, bi ((intS stop p.1).1 == 0) X (bi ((p.2.2.length : Int) == 4096) X Y) = X := fun X Y => by
        by_cases c1 : (intS stop p.1).1 = 0
        · rw [br_eq c1]
        · rw [br_eq' c1, br_eq (by omega)]
      rw [two, br_pos hl1, br_pos p0, br_pos p0, walkInt_eq hKI]
      try dsimp only
      rw [br_pos (by
        show (0 + 1) * 8 ≤ 140737488355328
        omega), wr (0 * K) (by omega) (by omega), wr _ (by omega) (by omega), br_pos (by omega), br_pos (by omega), br_pos (by omega)]
      rw [show ((plcS K nx N p.2).2.1.set 0 (IntKind.i64.wrap ((plcS K nx N p.2).2.1.getD 0 0 + 1))) = incS (plcS K nx N p.2).2.1 0 from rfl]
      rw [br_pos (by omega), br_pos (by omega)]
      rfl
    · have e : turnS stop p = p.2 := by unfold turnS; rw [if_neg c]
      rw [e] at T2 T3 idx hn ⊢
      rw [br_eq' (by omega), br_eq' (by omega), walkInt_eq hKI]
      try dsimp only
      rw [br_pos (by
        show (p.2.2.length + 1) * 8 ≤ 140737488355328
        omega), wr ((plcS K nx N p.2).1 * K) (by omega) (by omega), wr _ (by omega) (by omega), br_pos (by omega), br_pos (by omega), br_pos (by omega), br_pos (by omega), br_pos (by omega)]
      rfl

theorem ok_walk_Stroll {R : Type} (m : Int) (m_1 : Int) (m_2 : Int) (m_3 : Int) (m_4 : List Int) (m_5 : List Int) (seed : Int) (steps : Int) (stop : Int) (K0 : Int → (List (List Int)) → (List Int) → (List Int) → Option R) {r : R} (h : l_walk_Stroll m m_1 m_2 m_3 m_4 m_5 seed steps stop K0 = some r) :
    ∃ fuel, e_walk_Stroll (run_walk_Stroll K0 fuel) K0 m m_1 m_2 m_3 m_4 m_5 seed steps stop = some r := by
  unfold l_walk_Stroll at h
  rcases bi_some h with ⟨hs, h'⟩ | ⟨_, h'⟩
  · obtain ⟨⟨o1, o2⟩, hst⟩ := of_decide_eq_true hs
    rw [← h']
    unfold e_walk_Stroll strollS
    simp only [check_eq _ _ _ _ _ _ o1.1 o2.1, checkS_eq o1 o2]
    by_cases c1 : (checkR m m_1 m_2 m_3 m_4 m_5).2 = 0
    · rw [if_neg (by simpa using c1)]
      simp only [br_ne' c1]
      by_cases c2 : steps < 0
      · exact ⟨0, by rw [br_pos c2, if_pos (.inl c2)]⟩
      by_cases c3 : stop < 1
      · exact ⟨0, by rw [br_neg c2, br_pos c3, if_pos (.inr c3)]⟩
      rw [if_neg (by omega)]
      by_cases c4 : steps > 65536
      · exact ⟨0, by rw [br_neg c2, br_neg c3, br_pos c4, if_pos c4]⟩
      rw [if_neg c4]
      have F := checkR_fine.1 c1
      have hN := F.fN
      have hNK := mulK ⟨hN, F.fK⟩
      have hx := F.fnx
      have T0 : tsane m_4 m_3 (plcS m_1 m_4 m_3 ([], [])) := tstart_sane hN.1 (told0_sane F)
      obtain ⟨n, hn⟩ := (stroll_run F (steps := steps) hst (by omega) K0 steps.toNat 0 (seedS seed, [], []) (by omega) (way0 _ _) T0).get
      refine ⟨n, ?_⟩
      have p1 : 0 ≤ m_3 ∧ m_3 ≤ m_3 ∧ m_3 ≤ 1073741824 := by omega
      have p2 : 0 ≤ (m_4.length : Int) ∧ (m_4.length : Int) ≤ (m_4.length : Int) ∧ (m_4.length : Int) ≤ 1073741824 := by omega
      have p3 : 0 ≤ (0 : Int) ∧ (0 : Int) < (((List.replicate m_3.toNat (0 : Int)).length : Nat) : Int) := by rw [List.length_replicate]; omega
      simp only [br_neg c2, br_neg c3, br_neg c4, new_eq, br_pos p1, br_pos p2, br_pos p3, both_same, twice_eq, thrice_eq, Int.toNat_natCast]
      unfold wordsS
      rw [told_snoc]
      exact hn
    · exact ⟨0, by rw [br_ne c1, if_pos (by simpa using c1)]⟩
  · cases h'

theorem stroll_eq {R : Type} {k K O N : Int} {nx ou : List Int} (o1 : okL nx) (o2 : okL ou) {seed steps stop : Int} (h : inI stop) (K0 : Int → (List (List Int)) → (List Int) → (List Int) → Option R) :
    l_walk_Stroll k K O N nx ou seed steps stop K0 = K0 (strollS k K O N nx ou seed steps stop).1 (strollS k K O N nx ou seed steps stop).2.1 (strollS k K O N nx ou seed steps stop).2.2.1 (strollS k K O N nx ou seed steps stop).2.2.2 := by
  unfold l_walk_Stroll
  rw [br_pos ⟨⟨o1, o2⟩, h⟩]

abbrev LT_tutorref03_Check := {R : Type} → Int → Int → Int → Int → (List Int) → (List Int) → (Int → Int → Option R) → Option R
abbrev GT_tutorref03_Check_15 (R : Type) := Int → Int → Int → Int → Int → (List Int) → (List Int) → Option R
abbrev GT_tutorref03_Check_20 (R : Type) := Int → Int → Int → Int → Int → (List Int) → (List Int) → Option R
/-- tutor/tutorref03.Check -/
def s_tutorref03_Check_15 {R : Type} (g41_15 : GT_tutorref03_Check_15 R) (g41_20 : GT_tutorref03_Check_20 R) (K0 : Int → Int → Option R) (i o0 o0_1 o0_2 o0_3 : Int) (o0_4 o0_5 : List Int) : Option R :=
  bi (decide (i < (o0_4.length : Int)))
   (bi (decide (0 ≤ i ∧ i < ((o0_4.length : Nat) : Int)))
    (bi (decide ((o0_4.getD i.toNat 0) < 0))
     (K0 i 32)
     (bi (decide (0 ≤ i ∧ i < ((o0_4.length : Nat) : Int)))
      (bi (decide ((o0_4.getD i.toNat 0) ≥ o0_3))
       (K0 i 32)
       (g41_15 (IntKind.i64.wrap (i + 1)) o0 o0_1 o0_2 o0_3 o0_4 o0_5))
      none))
    none)
   (g41_20 0 o0 o0_1 o0_2 o0_3 o0_4 o0_5)

/-- tutor/tutorref03.Check -/
def s_tutorref03_Check_20 {R : Type} (g41_15 : GT_tutorref03_Check_15 R) (g41_20 : GT_tutorref03_Check_20 R) (K0 : Int → Int → Option R) (i o0 o0_1 o0_2 o0_3 : Int) (o0_4 o0_5 : List Int) : Option R :=
  bi (decide (i < (o0_5.length : Int)))
   (bi (decide (0 ≤ i ∧ i < ((o0_5.length : Nat) : Int)))
    (bi (decide ((o0_5.getD i.toNat 0) < 0))
     (K0 i 33)
     (bi (decide (0 ≤ i ∧ i < ((o0_5.length : Nat) : Int)))
      (bi (decide ((o0_5.getD i.toNat 0) ≥ o0_2))
       (K0 i 33)
       (g41_20 (IntKind.i64.wrap (i + 1)) o0 o0_1 o0_2 o0_3 o0_4 o0_5))
      none))
    none)
   (K0 0 0)

/-- tutor/tutorref03.Check -/
def e_tutorref03_Check {R : Type} (g41_15 : GT_tutorref03_Check_15 R) (g41_20 : GT_tutorref03_Check_20 R) (K0 : Int → Int → Option R) (m m_1 m_2 m_3 : Int) (m_4 m_5 : List Int) : Option R :=
  bi (m != 1)
   (bi (m != 2)
    (K0 0 30)
    (bi (decide (m_1 < 1))
     (K0 0 1)
     (bi (decide (m_1 > 64))
      (K0 0 1)
      (bi (m == 1)
       (bi (m_2 != 2)
        (K0 0 33)
        (bi (decide (m_2 < 1))
         (K0 0 33)
         (bi (decide (m_2 > 64))
          (K0 0 33)
          (bi (decide (m_3 < 1))
           (K0 0 3)
           (bi (decide (m_3 > 1024))
            (K0 0 3)
            (bi (m == 2)
             (bi ((m_4.length : Int) != (IntKind.i64.wrap (m_3 * m_1)))
              (K0 0 31)
              (bi ((m_5.length : Int) != (IntKind.i64.wrap (m_3 * m_1)))
               (K0 0 31)
               (g41_15 0 m m_1 m_2 m_3 m_4 m_5)))
             (bi ((m_4.length : Int) != (IntKind.i64.wrap (m_3 * m_1)))
              (K0 0 31)
              (bi ((m_5.length : Int) != m_3)
               (K0 0 31)
               (g41_15 0 m m_1 m_2 m_3 m_4 m_5)))))))))
       (bi (decide (m_2 < 1))
        (K0 0 33)
        (bi (decide (m_2 > 64))
         (K0 0 33)
         (bi (decide (m_3 < 1))
          (K0 0 3)
          (bi (decide (m_3 > 1024))
           (K0 0 3)
           (bi (m == 2)
            (bi ((m_4.length : Int) != (IntKind.i64.wrap (m_3 * m_1)))
             (K0 0 31)
             (bi ((m_5.length : Int) != (IntKind.i64.wrap (m_3 * m_1)))
              (K0 0 31)
              (g41_15 0 m m_1 m_2 m_3 m_4 m_5)))
            (bi ((m_4.length : Int) != (IntKind.i64.wrap (m_3 * m_1)))
             (K0 0 31)
             (bi ((m_5.length : Int) != m_3)
              (K0 0 31)
              (g41_15 0 m m_1 m_2 m_3 m_4 m_5))))))))))))
   (bi (decide (m_1 < 1))
    (K0 0 1)
    (bi (decide (m_1 > 64))
     (K0 0 1)
     (bi (m == 1)
      (bi (m_2 != 2)
       (K0 0 33)
       (bi (decide (m_2 < 1))
        (K0 0 33)
        (bi (decide (m_2 > 64))
         (K0 0 33)
         (bi (decide (m_3 < 1))
          (K0 0 3)
          (bi (decide (m_3 > 1024))
           (K0 0 3)
           (bi (m == 2)
            (bi ((m_4.length : Int) != (IntKind.i64.wrap (m_3 * m_1)))
             (K0 0 31)
             (bi ((m_5.length : Int) != (IntKind.i64.wrap (m_3 * m_1)))
              (K0 0 31)
              (g41_15 0 m m_1 m_2 m_3 m_4 m_5)))
            (bi ((m_4.length : Int) != (IntKind.i64.wrap (m_3 * m_1)))
             (K0 0 31)
             (bi ((m_5.length : Int) != m_3)
              (K0 0 31)
              (g41_15 0 m m_1 m_2 m_3 m_4 m_5)))))))))
      (bi (decide (m_2 < 1))
       (K0 0 33)
       (bi (decide (m_2 > 64))
        (K0 0 33)
        (bi (decide (m_3 < 1))
         (K0 0 3)
         (bi (decide (m_3 > 1024))
          (K0 0 3)
          (bi (m == 2)
           (bi ((m_4.length : Int) != (IntKind.i64.wrap (m_3 * m_1)))
            (K0 0 31)
            (bi ((m_5.length : Int) != (IntKind.i64.wrap (m_3 * m_1)))
             (K0 0 31)
             (g41_15 0 m m_1 m_2 m_3 m_4 m_5)))
           (bi ((m_4.length : Int) != (IntKind.i64.wrap (m_3 * m_1)))
            (K0 0 31)
            (bi ((m_5.length : Int) != m_3)
             (K0 0 31)
             (g41_15 0 m m_1 m_2 m_3 m_4 m_5)))))))))))

def run_tutorref03_Check {R : Type} (K0 : Int → Int → Option R) : Nat → (Int → Int → Int → Int → Int → (List Int) → (List Int) → Option R) × (Int → Int → Int → Int → Int → (List Int) → (List Int) → Option R)
  | 0 => (fun _ _ _ _ _ _ _ => none, fun _ _ _ _ _ _ _ => none)
  | n + 1 => (s_tutorref03_Check_15 (run_tutorref03_Check K0 n).1 (run_tutorref03_Check K0 n).2 K0, s_tutorref03_Check_20 (run_tutorref03_Check K0 n).1 (run_tutorref03_Check K0 n).2 K0)

def l_tutorref03_Check {R : Type} (k K O N : Int) (nx ou : List Int) (K0 : Int → Int → Option R) : Option R :=
  bi (decide (short nx ∧ short ou)) (K0 (checkR k K O N nx ou).1 (checkR k K O N nx ou).2) none

theorem checkR_head {R : Type} (g1 g2 : Int → Int → Int → Int → Int → List Int → List Int → Option R) (K0 : Int → Int → Option R) (k K O N : Int) (nx ou : List Int) :
    e_tutorref03_Check g1 g2 K0 k K O N nx ou = if headS k K O N nx ou = 0 then g1 0 k K O N nx ou else K0 0 (headS k K O N nx ou) := by
  have L0 : headS k K O N nx ou = 0 → g1 0 k K O N nx ou = if headS k K O N nx ou = 0 then g1 0 k K O N nx ou else K0 0 (headS k K O N nx ou) := fun h => by rw [if_pos h]
  have LK : ∀ c, headS k K O N nx ou = c → c ≠ 0 → K0 0 c = if headS k K O N nx ou = 0 then g1 0 k K O N nx ou else K0 0 (headS k K O N nx ou) := fun c h h0 => by rw [h, if_neg h0]
  unfold e_tutorref03_Check
  simp only [br_if, bne_iff_ne, beq_iff_eq, decide_eq_true_eq, ne_eq]
  by_cases hb : (1 ≤ N ∧ N ≤ 1024) ∧ 1 ≤ K ∧ K ≤ 64
  · have := mulK hb
    rw [wr (N * K) (by omega) (by omega)]
    repeat' (refine ite_l (fun _ => ?_) (fun _ => ?_))
    all_goals first
      | exact LK _ (by unfold headS; repeat' (refine ite_l (fun _ => ?_) (fun _ => ?_)); all_goals omega) (by omega)
      | exact L0 (by unfold headS; repeat' (refine ite_l (fun _ => ?_) (fun _ => ?_)); all_goals omega)
  · repeat' (refine ite_l (fun _ => ?_) (fun _ => ?_))
    all_goals first
      | exact LK _ (by unfold headS; repeat' (refine ite_l (fun _ => ?_) (fun _ => ?_)); all_goals omega) (by omega)
      | exact L0 (by unfold headS; repeat' (refine ite_l (fun _ => ?_) (fun _ => ?_)); all_goals omega)

theorem ok_tutorref03_Check {R : Type} (k K O N : Int) (nx ou : List Int) (K0 : Int → Int → Option R) {r : R} (h : l_tutorref03_Check k K O N nx ou K0 = some r) :
    ∃ fuel, e_tutorref03_Check (run_tutorref03_Check K0 fuel).1 (run_tutorref03_Check K0 fuel).2 K0 k K O N nx ou = some r := by
  unfold l_tutorref03_Check at h
  rcases bi_some h with ⟨hs, h⟩ | ⟨_, h⟩
  · obtain ⟨h1, h2⟩ : nx.length < 4611686018427387904 ∧ ou.length < 4611686018427387904 := of_decide_eq_true hs
    refine ⟨ou.length + 1 + (nx.length + 1), ?_⟩
    rw [← h, checkR_head]
    unfold checkR
    by_cases hh : headS k K O N nx ou = 0
    · rw [if_pos hh, if_neg (by simpa using hh)]
      have key2 : ∀ n, (run_tutorref03_Check K0 (n + (ou.length + 1))).2 0 k K O N nx ou = match findP (outside O) ou with | some i => K0 (i : Int) 33 | none => K0 0 0 := fun n =>
        scan_all (F := fun m i => (run_tutorref03_Check K0 (n + m)).2 (i : Int) k K O N nx ou) (outside O) (l := ou) (A := fun i => K0 i 33) (B := K0 0 0)
          (fun m => by
            show s_tutorref03_Check_20 (run_tutorref03_Check K0 (n + m)).1 (run_tutorref03_Check K0 (n + m)).2 K0 _ _ _ _ _ _ _ = _
            unfold s_tutorref03_Check_20
            rw [br_neg (by omega)])
          (fun m i hi => by
            show s_tutorref03_Check_20 (run_tutorref03_Check K0 (n + m)).1 (run_tutorref03_Check K0 (n + m)).2 K0 _ _ _ _ _ _ _ = _
            unfold s_tutorref03_Check_20
            rw [br_pos (by omega), br_pos (by omega), br_pos (p := 0 ≤ (i : Int) ∧ (i : Int) < ((ou.length : Nat) : Int)) (by omega), Int.toNat_natCast, getD_of 0 hi, wr _ (by omega) (by omega)]
            unfold outside
            cases decide (ou[i] < 0) <;> cases decide (ou[i] ≥ O) <;> rfl)
      have key1 := scan_all (F := fun m i => (run_tutorref03_Check K0 (ou.length + 1 + m)).1 (i : Int) k K O N nx ou) (outside N) (l := nx) (A := fun i => K0 i 32)
        (B := match findP (outside O) ou with | some i => K0 (i : Int) 33 | none => K0 0 0)
          (fun m => by
            show s_tutorref03_Check_15 (run_tutorref03_Check K0 (ou.length + 1 + m)).1 (run_tutorref03_Check K0 (ou.length + 1 + m)).2 K0 _ _ _ _ _ _ _ = _
            unfold s_tutorref03_Check_15
            rw [br_neg (by omega)]
            have := key2 m
            rwa [show m + (ou.length + 1) = ou.length + 1 + m by omega] at this)
          (fun m i hi => by
            show s_tutorref03_Check_15 (run_tutorref03_Check K0 (ou.length + 1 + m)).1 (run_tutorref03_Check K0 (ou.length + 1 + m)).2 K0 _ _ _ _ _ _ _ = _
            unfold s_tutorref03_Check_15
            rw [br_pos (by omega), br_pos (by omega), br_pos (p := 0 ≤ (i : Int) ∧ (i : Int) < ((nx.length : Nat) : Int)) (by omega), Int.toNat_natCast, getD_of 0 hi, wr _ (by omega) (by omega)]
            unfold outside
            cases decide (nx[i] < 0) <;> cases decide (nx[i] ≥ N) <;> rfl)
      refine key1.trans ?_
      cases findP (outside N) nx with
      | some i => rfl
      | none => cases findP (outside O) ou <;> rfl
    · rw [if_neg hh, if_pos (by simpa using hh)]
  · cases h

abbrev LT_tutorref21_Start := {R : Type} → Int → (Int → Option R) → Option R
/-- tutor/tutorref21.Start -/
def l_tutorref21_Start {R : Type} (seed : Int) (K0 : Int → Option R) : Option R :=
  bi (seed == 0)
   (K0 88172645463325252)
   (K0 seed)

abbrev LT_tutorref21_Told := {R : Type} → Int → Int → Int → Int → (List Int) → (List Int) → (List (List Int)) → ((List (List Int)) → (List Int) → (List Int) → Option R) → Option R
abbrev GT_tutorref21_Told_3 (R : Type) := (List (List Int)) → Int → Int → Int → Int → Int → (List Int) → (List Int) → (List (List Int)) → (List Int) → (List Int) → (List (List Int)) → (List Int) → (List Int) → Option R
abbrev GT_tutorref21_Told_8 (R : Type) := (List (List Int)) → Int → Int → Int → Int → Int → Int → Int → (List Int) → (List Int) → (List (List Int)) → (List Int) → (List Int) → (List (List Int)) → (List Int) → (List Int) → Option R
/-- tutor/tutorref21.Told -/
def s_tutorref21_Told_3 {R : Type} (g29_3 : GT_tutorref21_Told_3 R) (g29_8 : GT_tutorref21_Told_8 R) (K0 : (List (List Int)) → (List Int) → (List Int) → Option R) (words : List (List Int)) (i o0 o0_1 o0_2 o0_3 : Int) (o0_4 o0_5 : List Int) (o2 : List (List Int)) (o3 o4 : List Int) (o5 : List (List Int)) (o6 o7 : List Int) : Option R :=
  bi (decide (i < (words.length : Int)))
   (bi (decide (0 ≤ (0 : Int) ∧ (0 : Int) < ((o6.length : Nat) : Int)))
    (bi (decide (0 ≤ (0 : Int) ∧ (0 : Int) < ((o6.length : Nat) : Int)))
     (g29_8 words i 0 0 o0 o0_1 o0_2 o0_3 o0_4 o0_5 o2 o3 o4 o5 (o6.set 0 (IntKind.i64.wrap ((o6.getD 0 0) + 1))) o7)
     none)
    none)
   (K0 o5 o6 o7)

/-- tutor/tutorref21.Told -/
def s_tutorref21_Told_8 {R : Type} (g29_3 : GT_tutorref21_Told_3 R) (g29_8 : GT_tutorref21_Told_8 R) (K0 : (List (List Int)) → (List Int) → (List Int) → Option R) (words : List (List Int)) (i s k o0 o0_1 o0_2 o0_3 : Int) (o0_4 o0_5 : List Int) (o2 : List (List Int)) (o3 o4 : List Int) (o5 : List (List Int)) (o6 o7 : List Int) : Option R :=
  bi (decide (0 ≤ i ∧ i < ((words.length : Nat) : Int)))
   (bi (decide (k < ((words.getD i.toNat []).length : Int)))
    (bi (decide (0 ≤ i ∧ i < ((words.length : Nat) : Int)))
     (bi (decide (0 ≤ k ∧ k < (((words.getD i.toNat []).length : Nat) : Int)))
      (bi (decide (0 ≤ (IntKind.i64.wrap ((IntKind.i64.wrap (s * o0_1)) + ((words.getD i.toNat []).getD k.toNat 0))) ∧ (IntKind.i64.wrap ((IntKind.i64.wrap (s * o0_1)) + ((words.getD i.toNat []).getD k.toNat 0))) < ((o7.length : Nat) : Int)))
       (bi (decide (0 ≤ (IntKind.i64.wrap ((IntKind.i64.wrap (s * o0_1)) + ((words.getD i.toNat []).getD k.toNat 0))) ∧ (IntKind.i64.wrap ((IntKind.i64.wrap (s * o0_1)) + ((words.getD i.toNat []).getD k.toNat 0))) < ((o7.length : Nat) : Int)))
        (bi (decide (0 ≤ (IntKind.i64.wrap ((IntKind.i64.wrap (s * o0_1)) + ((words.getD i.toNat []).getD k.toNat 0))) ∧ (IntKind.i64.wrap ((IntKind.i64.wrap (s * o0_1)) + ((words.getD i.toNat []).getD k.toNat 0))) < ((o0_4.length : Nat) : Int)))
         (bi (decide (0 ≤ (o0_4.getD ((IntKind.i64.wrap ((IntKind.i64.wrap (s * o0_1)) + ((words.getD i.toNat []).getD k.toNat 0))).toNat) 0) ∧ (o0_4.getD ((IntKind.i64.wrap ((IntKind.i64.wrap (s * o0_1)) + ((words.getD i.toNat []).getD k.toNat 0))).toNat) 0) < ((o6.length : Nat) : Int)))
          (bi (decide (0 ≤ (o0_4.getD ((IntKind.i64.wrap ((IntKind.i64.wrap (s * o0_1)) + ((words.getD i.toNat []).getD k.toNat 0))).toNat) 0) ∧ (o0_4.getD ((IntKind.i64.wrap ((IntKind.i64.wrap (s * o0_1)) + ((words.getD i.toNat []).getD k.toNat 0))).toNat) 0) < ((o6.length : Nat) : Int)))
           (g29_8 words i (o0_4.getD ((IntKind.i64.wrap ((IntKind.i64.wrap (s * o0_1)) + ((words.getD i.toNat []).getD k.toNat 0))).toNat) 0) (IntKind.i64.wrap (k + 1)) o0 o0_1 o0_2 o0_3 o0_4 o0_5 o2 o3 o4 o5 (o6.set ((o0_4.getD ((IntKind.i64.wrap ((IntKind.i64.wrap (s * o0_1)) + ((words.getD i.toNat []).getD k.toNat 0))).toNat) 0).toNat) (IntKind.i64.wrap ((o6.getD ((o0_4.getD ((IntKind.i64.wrap ((IntKind.i64.wrap (s * o0_1)) + ((words.getD i.toNat []).getD k.toNat 0))).toNat) 0).toNat) 0) + 1))) (o7.set ((IntKind.i64.wrap ((IntKind.i64.wrap (s * o0_1)) + ((words.getD i.toNat []).getD k.toNat 0))).toNat) (IntKind.i64.wrap ((o7.getD ((IntKind.i64.wrap ((IntKind.i64.wrap (s * o0_1)) + ((words.getD i.toNat []).getD k.toNat 0))).toNat) 0) + 1))))
           none)
          none)
         none)
        none)
       none)
      none)
     none)
    (g29_3 words (IntKind.i64.wrap (i + 1)) o0 o0_1 o0_2 o0_3 o0_4 o0_5 o2 o3 o4 o5 o6 o7))
   none

/-- tutor/tutorref21.Told -/
def e_tutorref21_Told {R : Type} (g29_3 : GT_tutorref21_Told_3 R) (g29_8 : GT_tutorref21_Told_8 R) (K0 : (List (List Int)) → (List Int) → (List Int) → Option R) (m m_1 m_2 m_3 : Int) (m_4 m_5 : List Int) (words : List (List Int)) : Option R :=
  both
   (bi (decide (0 ≤ m_3 ∧ m_3 ≤ m_3 ∧ m_3 ≤ 1073741824))
    (twice
     (bi (decide (0 ≤ (m_4.length : Int) ∧ (m_4.length : Int) ≤ (m_4.length : Int) ∧ (m_4.length : Int) ≤ 1073741824))
      (g29_3 words 0 m m_1 m_2 m_3 m_4 m_5 ([] : List (List Int)) ([] : List Int) ([] : List Int) words (List.replicate m_3.toNat (0 : Int)) (List.replicate (m_4.length : Int).toNat (0 : Int)))
      none))
    none)
   (both
    (bi (decide (0 ≤ (m_4.length : Int) ∧ (m_4.length : Int) ≤ (m_4.length : Int) ∧ (m_4.length : Int) ≤ 1073741824))
     (twice
      (bi (decide (0 ≤ m_3 ∧ m_3 ≤ m_3 ∧ m_3 ≤ 1073741824))
       (g29_3 words 0 m m_1 m_2 m_3 m_4 m_5 ([] : List (List Int)) ([] : List Int) ([] : List Int) words (List.replicate m_3.toNat (0 : Int)) (List.replicate (m_4.length : Int).toNat (0 : Int)))
       none))
     none)
    (both
     (bi (decide (0 ≤ m_3 ∧ m_3 ≤ m_3 ∧ m_3 ≤ 1073741824))
      (bi (decide (0 ≤ (m_4.length : Int) ∧ (m_4.length : Int) ≤ (m_4.length : Int) ∧ (m_4.length : Int) ≤ 1073741824))
       (g29_3 words 0 m m_1 m_2 m_3 m_4 m_5 ([] : List (List Int)) ([] : List Int) ([] : List Int) words (List.replicate m_3.toNat (0 : Int)) (List.replicate (m_4.length : Int).toNat (0 : Int)))
       none)
      none)
     (bi (decide (0 ≤ (m_4.length : Int) ∧ (m_4.length : Int) ≤ (m_4.length : Int) ∧ (m_4.length : Int) ≤ 1073741824))
      (bi (decide (0 ≤ m_3 ∧ m_3 ≤ m_3 ∧ m_3 ≤ 1073741824))
       (g29_3 words 0 m m_1 m_2 m_3 m_4 m_5 ([] : List (List Int)) ([] : List Int) ([] : List Int) words (List.replicate m_3.toNat (0 : Int)) (List.replicate (m_4.length : Int).toNat (0 : Int)))
       none)
      none)))

def run_tutorref21_Told {R : Type} (K0 : (List (List Int)) → (List Int) → (List Int) → Option R) : Nat → ((List (List Int)) → Int → Int → Int → Int → Int → (List Int) → (List Int) → (List (List Int)) → (List Int) → (List Int) → (List (List Int)) → (List Int) → (List Int) → Option R) × ((List (List Int)) → Int → Int → Int → Int → Int → Int → Int → (List Int) → (List Int) → (List (List Int)) → (List Int) → (List Int) → (List (List Int)) → (List Int) → (List Int) → Option R)
  | 0 => (fun _ _ _ _ _ _ _ _ _ _ _ _ _ _ => none, fun _ _ _ _ _ _ _ _ _ _ _ _ _ _ _ _ => none)
  | n + 1 => (s_tutorref21_Told_3 (run_tutorref21_Told K0 n).1 (run_tutorref21_Told K0 n).2 K0, s_tutorref21_Told_8 (run_tutorref21_Told K0 n).1 (run_tutorref21_Told K0 n).2 K0)

def toldOk (k K O N : Int) (nx ou : List Int) (words : List (List Int)) : Prop := (checkR k K O N nx ou).2 = 0 ∧ words.length < 4611686018427387904 ∧ ∀ w ∈ words, w.length ≤ 4096 ∧ ∀ x ∈ w, 0 ≤ x ∧ x < K
instance (k K O N : Int) (nx ou : List Int) (words : List (List Int)) : Decidable (toldOk k K O N nx ou words) := by unfold toldOk; infer_instance

def l_tutorref21_Told {R : Type} (m : Int) (m_1 : Int) (m_2 : Int) (m_3 : Int) (m_4 : List Int) (m_5 : List Int) (words : List (List Int)) (K0 : (List (List Int)) → (List Int) → (List Int) → Option R) : Option R :=
  bi (decide (toldOk m m_1 m_2 m_3 m_4 m_5 words)) (K0 words (toldS m_1 m_4 m_3 words).2.1 (toldS m_1 m_4 m_3 words).2.2) none

theorem toldIn {R : Type} {k K O N : Int} {nx ou : List Int} (F : Fine k K O N nx ou) (words : List (List Int)) (K0 : (List (List Int)) → (List Int) → (List Int) → Option R) {i : Nat} (hi : i < words.length) (hs : words.length < 4611686018427387904) (hw : words[i].length ≤ 4096 ∧ validW K words[i]) {v : Option R}
    {f : TS} (hout : Reach (fun m => (run_tutorref21_Told K0 m).1 words ((i + 1 : Nat) : Int) k K O N nx ou [] [] [] words f.2.1 f.2.2) v) :
    ∀ (d j : Nat) (t : TS), j + d = words[i].length → tsane nx N t → (words[i].drop j).foldl (tstep K nx) t = f → Reach (fun m => (run_tutorref21_Told K0 m).2 words i t.1 j k K O N nx ou [] [] [] words t.2.1 t.2.2) v := by
  intro d
  have hN := F.fN
  have hK := F.fK
  have hNK := mulK ⟨hN, hK⟩
  have hx := F.fnx
  induction d with
  | zero =>
    intro j t hj ht hf
    rw [List.drop_eq_nil_of_le (by omega)] at hf
    subst hf
    refine .step (fun m => ?_) hout
    rw [show (run_tutorref21_Told K0 (m + 1)).2 = s_tutorref21_Told_8 (run_tutorref21_Told K0 m).1 (run_tutorref21_Told K0 m).2 K0 from rfl]
    unfold s_tutorref21_Told_8
    rw [br_pos (by omega), Int.toNat_natCast, getD_of [] hi, br_neg (by omega), wr _ (by omega) (by omega)]
    rfl
  | succ d ih =>
    intro j t hj ht hf
    have hj' : j < words[i].length := by omega
    rw [List.drop_eq_getElem_cons hj'] at hf
    have hc := hw.2 _ (List.getElem_mem hj')
    have h1 := idx_in ht.1 hc
    have h2 := ht.2.1
    have h3 := ht.2.2
    have hn : 0 ≤ nx.getD (t.1 * K + words[i][j]).toNat 0 ∧ nx.getD (t.1 * K + words[i][j]).toNat 0 < N := by
      rw [getD_of 0 (by omega)]
      exact F.fnxs _ (List.getElem_mem _)
    refine .step (fun m => ?_) (ih (j + 1) (tstep K nx t words[i][j]) (by omega) (tstep_sane F ht hc) hf)
    rw [show (run_tutorref21_Told K0 (m + 1)).2 = s_tutorref21_Told_8 (run_tutorref21_Told K0 m).1 (run_tutorref21_Told K0 m).2 K0 from rfl]
    unfold s_tutorref21_Told_8
    have p1 : 0 ≤ (i : Int) ∧ (i : Int) < ((words.length : Nat) : Int) := by omega
    rw [br_pos p1, Int.toNat_natCast, getD_of [] hi, br_pos (by omega), br_pos p1, br_pos (by omega), Int.toNat_natCast, getD_of 0 hj', wr (t.1 * K) (by omega) (by omega), wr (t.1 * K + words[i][j]) (by omega) (by omega), wr ((j : Int) + 1) (by omega) (by omega),
      br_pos (by omega), br_pos (by omega), br_pos (by omega)]
    rw [br_pos (by omega), br_pos (by omega)]
    rfl

theorem ok_tutorref21_Told {R : Type} (m : Int) (m_1 : Int) (m_2 : Int) (m_3 : Int) (m_4 : List Int) (m_5 : List Int) (words : List (List Int)) (K0 : (List (List Int)) → (List Int) → (List Int) → Option R) {r : R} (h : l_tutorref21_Told m m_1 m_2 m_3 m_4 m_5 words K0 = some r) :
    ∃ fuel, e_tutorref21_Told (run_tutorref21_Told K0 fuel).1 (run_tutorref21_Told K0 fuel).2 K0 m m_1 m_2 m_3 m_4 m_5 words = some r := by
  unfold l_tutorref21_Told at h
  rcases bi_some h with ⟨hs, h'⟩ | ⟨_, h'⟩
  · obtain ⟨hc, hl, hw⟩ := of_decide_eq_true hs
    have F := checkR_fine.1 hc
    have hN := F.fN
    have hK := F.fK
    have hNK := mulK ⟨hN, hK⟩
    have hx := F.fnx
    rw [← h']
    have out : ∀ (d i : Nat) (t : TS), i + d = words.length → tsane m_4 m_3 t → Reach (fun n => (run_tutorref21_Told K0 n).1 words i m m_1 m_2 m_3 m_4 m_5 [] [] [] words t.2.1 t.2.2) (K0 words ((words.drop i).foldl (tword m_1 m_4) t).2.1 ((words.drop i).foldl (tword m_1 m_4) t).2.2) := by
      intro d
      induction d with
      | zero =>
        intro i t hi ht
        refine .now fun n => ?_
        rw [show (run_tutorref21_Told K0 (n + 1)).1 = s_tutorref21_Told_3 (run_tutorref21_Told K0 n).1 (run_tutorref21_Told K0 n).2 K0 from rfl]
        unfold s_tutorref21_Told_3
        rw [br_neg (by omega), List.drop_eq_nil_of_le (by omega)]
        rfl
      | succ d ih =>
        intro i t hi ht
        have hi' : i < words.length := by omega
        have hwi := hw _ (List.getElem_mem hi')
        have := ih (i + 1) (tword m_1 m_4 t words[i]) (by omega) (tword_sane F ht hwi.2)
        rw [List.drop_eq_getElem_cons hi', List.foldl_cons]
        refine .step (fun n => ?_) (toldIn F words K0 hi' hl hwi this words[i].length 0 (0, incS t.2.1 0, t.2.2) (by omega) (tstart_sane hN.1 ht) rfl)
        rw [show (run_tutorref21_Told K0 (n + 1)).1 = s_tutorref21_Told_3 (run_tutorref21_Told K0 n).1 (run_tutorref21_Told K0 n).2 K0 from rfl]
        unfold s_tutorref21_Told_3
        have := ht.2.1
        rw [br_pos (by omega), br_pos (by omega), br_pos (by omega)]
        rfl
    obtain ⟨n, hn⟩ := (out words.length 0 _ (by omega) (told0_sane F)).get
    refine ⟨n, ?_⟩
    unfold e_tutorref21_Told
    have p1 : 0 ≤ m_3 ∧ m_3 ≤ m_3 ∧ m_3 ≤ 1073741824 := by omega
    have p2 : 0 ≤ (m_4.length : Int) ∧ (m_4.length : Int) ≤ (m_4.length : Int) ∧ (m_4.length : Int) ≤ 1073741824 := by omega
    simp only [br_pos p1, br_pos p2, both_same, twice_eq, thrice_eq, Int.toNat_natCast]
    exact hn
  · cases h'

theorem told_eq {R : Type} {k K O N : Int} {nx ou : List Int} (F : Fine k K O N nx ou) {words : List (List Int)} (hl : words.length < 4611686018427387904) (hw : ∀ w ∈ words, w.length ≤ 4096 ∧ validW K w) (K0 : (List (List Int)) → (List Int) → (List Int) → Option R) :
    l_tutorref21_Told k K O N nx ou words K0 = K0 words (toldS K nx N words).2.1 (toldS K nx N words).2.2 := by
  unfold l_tutorref21_Told
  rw [br_pos ⟨checkR_fine.2 F, hl, hw⟩]

abbrev LT_tutorref21_Stroll := {R : Type} → Int → Int → Int → Int → (List Int) → (List Int) → Int → Int → Int → (Int → (List (List Int)) → (List Int) → (List Int) → Option R) → ((List (List Int)) → Int → (List Int) → (List Int) → Option R) → Option R
abbrev GT_tutorref21_Stroll_11 (R : Type) := Int → Int → Int → Int → Int → Int → Int → Int → (List Int) → (List Int) → (List (List Int)) → (List Int) → (List Int) → (List (List Int)) → Option R
/-- tutor/tutorref21.Stroll -/
def s_tutorref21_Stroll_11 {R : Type} (g25_11 : GT_tutorref21_Stroll_11 R) (K0 : Int → (List (List Int)) → (List Int) → (List Int) → Option R) (K1 : (List (List Int)) → Int → (List Int) → (List Int) → Option R) (steps stop x i o0 o0_1 o0_2 o0_3 : Int) (o0_4 o0_5 : List Int) (o2 : List (List Int)) (o3 o4 : List Int) (o5 : List (List Int)) : Option R :=
  bi (decide (i < steps))
   (l_tutorref21_Int x stop
    (fun r4 r5 =>
     l_tutorref21_Int r5 o0_1
      (fun r6 r7 =>
       bi (r4 == 0)
        (bi (decide ((o5.length + [([] : List Int)].length) * 24 ≤ lim))
         (bi (decide (0 ≤ (IntKind.i64.wrap ((IntKind.i64.wrap ((o5.length : Int) - 1)) + 1)) ∧ (IntKind.i64.wrap ((IntKind.i64.wrap ((o5.length : Int) - 1)) + 1)) < (((o5 ++ [([] : List Int)]).length : Nat) : Int)))
          (bi (decide ((((o5 ++ [([] : List Int)]).getD ((IntKind.i64.wrap ((IntKind.i64.wrap ((o5.length : Int) - 1)) + 1)).toNat) []).length + [r6].length) * 8 ≤ lim))
           (bi (decide (0 ≤ (IntKind.i64.wrap ((IntKind.i64.wrap ((o5.length : Int) - 1)) + 1)) ∧ (IntKind.i64.wrap ((IntKind.i64.wrap ((o5.length : Int) - 1)) + 1)) < ((((o5 ++ [([] : List Int)]).set ((IntKind.i64.wrap ((IntKind.i64.wrap ((o5.length : Int) - 1)) + 1)).toNat) (((o5 ++ [([] : List Int)]).getD ((IntKind.i64.wrap ((IntKind.i64.wrap ((o5.length : Int) - 1)) + 1)).toNat) []) ++ [r6])).length : Nat) : Int)))
            (bi (decide (((IntKind.i64.wrap ((IntKind.i64.wrap ((o5.length : Int) - 1)) + 1)).toNat) = ((IntKind.i64.wrap ((IntKind.i64.wrap ((o5.length : Int) - 1)) + 1)).toNat) ∧ ((IntKind.i64.wrap ((IntKind.i64.wrap ((o5.length : Int) - 1)) + 1)).toNat) = ((IntKind.i64.wrap ((IntKind.i64.wrap ((o5.length : Int) - 1)) + 1)).toNat)))
             (g25_11 steps stop r7 (IntKind.i64.wrap (i + 1)) o0 o0_1 o0_2 o0_3 o0_4 o0_5 o2 o3 o4 ((o5 ++ [([] : List Int)]).set ((IntKind.i64.wrap ((IntKind.i64.wrap ((o5.length : Int) - 1)) + 1)).toNat) (((o5 ++ [([] : List Int)]).getD ((IntKind.i64.wrap ((IntKind.i64.wrap ((o5.length : Int) - 1)) + 1)).toNat) []) ++ [r6])))
             none)
            none)
           none)
          none)
         none)
        (bi (decide (0 ≤ (IntKind.i64.wrap ((o5.length : Int) - 1)) ∧ (IntKind.i64.wrap ((o5.length : Int) - 1)) < ((o5.length : Nat) : Int)))
         (bi (((o5.getD ((IntKind.i64.wrap ((o5.length : Int) - 1)).toNat) []).length : Int) == 4096)
          (bi (decide ((o5.length + [([] : List Int)].length) * 24 ≤ lim))
           (bi (decide (0 ≤ (IntKind.i64.wrap ((IntKind.i64.wrap ((o5.length : Int) - 1)) + 1)) ∧ (IntKind.i64.wrap ((IntKind.i64.wrap ((o5.length : Int) - 1)) + 1)) < (((o5 ++ [([] : List Int)]).length : Nat) : Int)))
            (bi (decide ((((o5 ++ [([] : List Int)]).getD ((IntKind.i64.wrap ((IntKind.i64.wrap ((o5.length : Int) - 1)) + 1)).toNat) []).length + [r6].length) * 8 ≤ lim))
             (bi (decide (0 ≤ (IntKind.i64.wrap ((IntKind.i64.wrap ((o5.length : Int) - 1)) + 1)) ∧ (IntKind.i64.wrap ((IntKind.i64.wrap ((o5.length : Int) - 1)) + 1)) < ((((o5 ++ [([] : List Int)]).set ((IntKind.i64.wrap ((IntKind.i64.wrap ((o5.length : Int) - 1)) + 1)).toNat) (((o5 ++ [([] : List Int)]).getD ((IntKind.i64.wrap ((IntKind.i64.wrap ((o5.length : Int) - 1)) + 1)).toNat) []) ++ [r6])).length : Nat) : Int)))
              (bi (decide (((IntKind.i64.wrap ((IntKind.i64.wrap ((o5.length : Int) - 1)) + 1)).toNat) = ((IntKind.i64.wrap ((IntKind.i64.wrap ((o5.length : Int) - 1)) + 1)).toNat) ∧ ((IntKind.i64.wrap ((IntKind.i64.wrap ((o5.length : Int) - 1)) + 1)).toNat) = ((IntKind.i64.wrap ((IntKind.i64.wrap ((o5.length : Int) - 1)) + 1)).toNat)))
               (g25_11 steps stop r7 (IntKind.i64.wrap (i + 1)) o0 o0_1 o0_2 o0_3 o0_4 o0_5 o2 o3 o4 ((o5 ++ [([] : List Int)]).set ((IntKind.i64.wrap ((IntKind.i64.wrap ((o5.length : Int) - 1)) + 1)).toNat) (((o5 ++ [([] : List Int)]).getD ((IntKind.i64.wrap ((IntKind.i64.wrap ((o5.length : Int) - 1)) + 1)).toNat) []) ++ [r6])))
               none)
              none)
             none)
            none)
           none)
          (bi (decide (0 ≤ (IntKind.i64.wrap ((o5.length : Int) - 1)) ∧ (IntKind.i64.wrap ((o5.length : Int) - 1)) < ((o5.length : Nat) : Int)))
           (bi (decide (((o5.getD ((IntKind.i64.wrap ((o5.length : Int) - 1)).toNat) []).length + [r6].length) * 8 ≤ lim))
            (bi (decide (0 ≤ (IntKind.i64.wrap ((o5.length : Int) - 1)) ∧ (IntKind.i64.wrap ((o5.length : Int) - 1)) < (((o5.set ((IntKind.i64.wrap ((o5.length : Int) - 1)).toNat) ((o5.getD ((IntKind.i64.wrap ((o5.length : Int) - 1)).toNat) []) ++ [r6])).length : Nat) : Int)))
             (bi (decide (((IntKind.i64.wrap ((o5.length : Int) - 1)).toNat) = ((IntKind.i64.wrap ((o5.length : Int) - 1)).toNat) ∧ ((IntKind.i64.wrap ((o5.length : Int) - 1)).toNat) = ((IntKind.i64.wrap ((o5.length : Int) - 1)).toNat)))
              (g25_11 steps stop r7 (IntKind.i64.wrap (i + 1)) o0 o0_1 o0_2 o0_3 o0_4 o0_5 o2 o3 o4 (o5.set ((IntKind.i64.wrap ((o5.length : Int) - 1)).toNat) ((o5.getD ((IntKind.i64.wrap ((o5.length : Int) - 1)).toNat) []) ++ [r6])))
              none)
             none)
            none)
           none))
         none))))
   (l_tutorref21_Told o0 o0_1 o0_2 o0_3 o0_4 o0_5 o5
    (fun r8 r9 r10 =>
     K1 r8 0 r9 r10))

/-- tutor/tutorref21.Stroll -/
def e_tutorref21_Stroll {R : Type} (g25_11 : GT_tutorref21_Stroll_11 R) (K0 : Int → (List (List Int)) → (List Int) → (List Int) → Option R) (K1 : (List (List Int)) → Int → (List Int) → (List Int) → Option R) (m m_1 m_2 m_3 : Int) (m_4 m_5 : List Int) (seed steps stop : Int) : Option R :=
  l_tutorref03_Check m m_1 m_2 m_3 m_4 m_5
   (fun r1 r2 =>
    bi (r2 != 0)
     (K0 r2 ([] : List (List Int)) ([] : List Int) ([] : List Int))
     (bi (decide (steps < 0))
      (K0 1 ([] : List (List Int)) ([] : List Int) ([] : List Int))
      (bi (decide (stop < 1))
       (K0 1 ([] : List (List Int)) ([] : List Int) ([] : List Int))
       (bi (decide (steps > 65536))
        (K0 3 ([] : List (List Int)) ([] : List Int) ([] : List Int))
        (l_tutorref21_Start seed
         (fun r3 =>
          g25_11 steps stop r3 0 m m_1 m_2 m_3 m_4 m_5 ([] : List (List Int)) ([] : List Int) ([] : List Int) [([] : List Int)]))))))

def run_tutorref21_Stroll {R : Type} (K0 : Int → (List (List Int)) → (List Int) → (List Int) → Option R) (K1 : (List (List Int)) → Int → (List Int) → (List Int) → Option R) : Nat → Int → Int → Int → Int → Int → Int → Int → Int → (List Int) → (List Int) → (List (List Int)) → (List Int) → (List Int) → (List (List Int)) → Option R
  | 0 => fun _ _ _ _ _ _ _ _ _ _ _ _ _ _ => none
  | n + 1 => s_tutorref21_Stroll_11 (run_tutorref21_Stroll K0 K1 n) K0 K1

def l_tutorref21_Stroll {R : Type} (m m_1 m_2 m_3 : Int) (m_4 m_5 : List Int) (seed steps stop : Int) (K0 : Int → (List (List Int)) → (List Int) → (List Int) → Option R) (K1 : (List (List Int)) → Int → (List Int) → (List Int) → Option R) : Option R := evl fun fuel => e_tutorref21_Stroll (run_tutorref21_Stroll K0 K1 fuel) K0 K1 m m_1 m_2 m_3 m_4 m_5 seed steps stop

theorem ok_tutorref21_Stroll {R : Type} (m m_1 m_2 m_3 : Int) (m_4 m_5 : List Int) (seed steps stop : Int) (K0 : Int → (List (List Int)) → (List Int) → (List Int) → Option R) (K1 : (List (List Int)) → Int → (List Int) → (List Int) → Option R) {r : R} (h : l_tutorref21_Stroll m m_1 m_2 m_3 m_4 m_5 seed steps stop K0 K1 = some r) : ∃ fuel, e_tutorref21_Stroll (run_tutorref21_Stroll K0 K1 fuel) K0 K1 m m_1 m_2 m_3 m_4 m_5 seed steps stop = some r := evl_ok h

theorem set_last (l : List (List Int)) (x y : List Int) : (l ++ [x]).set l.length y = l ++ [y] := by
  rw [List.set_append, if_neg (by omega), Nat.sub_self]
  rfl
theorem get_last (l : List (List Int)) (x : List Int) : (l ++ [x]).getD l.length [] = x := by
  rw [List.getD_eq_getElem?_getD, List.getElem?_append_right (Nat.le_refl _), Nat.sub_self]
  rfl

theorem refStroll_go {R : Type} {k K O N : Int} {nx ou : List Int} (F : Fine k K O N nx ou) {stop steps : Int} (hst : inI stop) (hsp : 0 ≤ steps ∧ steps ≤ 65536) (K0 : Int → (List (List Int)) → (List Int) → (List Int) → Option R) (K1 : (List (List Int)) → Int → (List Int) → (List Int) → Option R) :
    ∀ (n i : Nat) (p : SS), (i : Int) + n = steps → Way K i p →
    Reach (fun m => run_tutorref21_Stroll K0 K1 m steps stop p.1 i k K O N nx ou [] [] [] (p.2.1 ++ [p.2.2]))
      (K1 ((sgo stop K n p).2.1 ++ [(sgo stop K n p).2.2]) 0 (toldS K nx N ((sgo stop K n p).2.1 ++ [(sgo stop K n p).2.2])).2.1 (toldS K nx N ((sgo stop K n p).2.1 ++ [(sgo stop K n p).2.2])).2.2)
  | 0, i, p, hi, W => by
    have h1 := W.few
    have hl : (p.2.1 ++ [p.2.2]).length ≤ 65537 := by
      rw [List.length_append, List.length_singleton]
      omega
    refine .now fun m => ?_
    rw [show run_tutorref21_Stroll K0 K1 (m + 1) = s_tutorref21_Stroll_11 (run_tutorref21_Stroll K0 K1 m) K0 K1 from rfl]
    unfold s_tutorref21_Stroll_11
    rw [br_neg (by omega), told_eq F (by omega) fun w hw => by
      rcases List.mem_append.1 hw with hw | hw
      · exact W.old w hw
      · rw [List.mem_singleton] at hw
        subst hw
        exact W.now]
    rfl
  | n + 1, i, p, hi, W => by
    have hN := F.fN
    have hK := F.fK
    have h1 := W.few
    have h0 := W.now.1
    have hKI : inI K := ⟨by omega, by omega⟩
    have ih := refStroll_go F hst hsp K0 K1 n (i + 1) (sstep stop K p) (by omega) (sstep_way hK W)
    refine .step (fun m => ?_) ih
    show _ = run_tutorref21_Stroll K0 K1 m steps stop (intS K (intS stop p.1).2).2 _ _ _ _ _ _ _ _ _ _ ((turnS stop p).1 ++ [(turnS stop p).2 ++ [(intS K (intS stop p.1).2).1]])
    rw [show run_tutorref21_Stroll K0 K1 (m + 1) = s_tutorref21_Stroll_11 (run_tutorref21_Stroll K0 K1 m) K0 K1 from rfl]
    unfold s_tutorref21_Stroll_11
    rw [br_pos (by omega), refInt_eq hst]
    try dsimp only
    rw [refInt_eq hKI]
    try dsimp only
    generalize (intS K (intS stop p.1).2).1 = c
    generalize (intS K (intS stop p.1).2).2 = x'
    have hl : (p.2.1 ++ [p.2.2]).length = p.2.1.length + 1 := by rw [List.length_append, List.length_singleton]
    have hl2 : ((p.2.1 ++ [p.2.2]) ++ [([] : List Int)]).length = p.2.1.length + 2 := by rw [List.length_append, hl, List.length_singleton]
    have ew : IntKind.i64.wrap (((p.2.1 ++ [p.2.2]).length : Int) - 1) = (p.2.1.length : Int) := by
      rw [wr _ (by omega) (by omega)]
      omega
    have ew2 : IntKind.i64.wrap ((p.2.1.length : Int) + 1) = ((p.2.1 ++ [p.2.2]).length : Int) := by
      rw [wr _ (by omega) (by omega)]
      omega
    rw [ew, ew2, Int.toNat_natCast, Int.toNat_natCast, get_last, get_last, set_last, set_last, List.nil_append, wr ((i : Int) + 1) (by omega) (by omega)]
    have q1 : ((p.2.1 ++ [p.2.2]).length + [([] : List Int)].length) * 24 ≤ lim := by
      rw [hl]
      show (p.2.1.length + 1 + 1) * 24 ≤ 140737488355328
      omega
    have q2 : (([] : List Int).length + [c].length) * 8 ≤ lim := by
      show (0 + 1) * 8 ≤ 140737488355328
      omega
    have q3 : (p.2.2.length + [c].length) * 8 ≤ lim := by
      show (p.2.2.length + 1) * 8 ≤ 140737488355328
      omega
    have l3 : ((p.2.1 ++ [p.2.2]) ++ [[c]]).length = p.2.1.length + 2 := by rw [List.length_append, hl, List.length_singleton]
    have l4 : (p.2.1 ++ [p.2.2 ++ [c]]).length = p.2.1.length + 1 := by rw [List.length_append, List.length_singleton]
    unfold turnS
    by_cases c1 : (intS stop p.1).1 = 0
    · rw [br_eq c1, br_pos q1, br_pos (by omega), br_pos q2, br_pos (by omega), br_pos ⟨rfl, rfl⟩, if_pos (.inl c1)]
      rfl
    · rw [br_eq' c1, br_pos (by omega)]
      by_cases c2 : p.2.2.length = 4096
      · rw [br_eq (by omega), br_pos q1, br_pos (by omega), br_pos q2, br_pos (by omega), br_pos ⟨rfl, rfl⟩, if_pos (.inr c2)]
        rfl
      · rw [br_eq' (by omega), br_pos (by omega), br_pos q3, br_pos (by omega), br_pos ⟨rfl, rfl⟩, if_neg (by omega)]
        rfl

theorem refStroll_eq {R : Type} {k K O N : Int} {nx ou : List Int} (o1 : short nx) (o2 : short ou) {seed steps stop : Int} (h : inI stop) (K0 : Int → (List (List Int)) → (List Int) → (List Int) → Option R) (K1 : (List (List Int)) → Int → (List Int) → (List Int) → Option R) :
    l_tutorref21_Stroll k K O N nx ou seed steps stop K0 K1 = if (strollS k K O N nx ou seed steps stop).1 = 0 then K1 (strollS k K O N nx ou seed steps stop).2.1 0 (strollS k K O N nx ou seed steps stop).2.2.1 (strollS k K O N nx ou seed steps stop).2.2.2
      else K0 (strollS k K O N nx ou seed steps stop).1 (strollS k K O N nx ou seed steps stop).2.1 (strollS k K O N nx ou seed steps stop).2.2.1 (strollS k K O N nx ou seed steps stop).2.2.2 := by
  have hck : ∀ (Kx : Int → Int → Option R), l_tutorref03_Check k K O N nx ou Kx = Kx (checkR k K O N nx ou).1 (checkR k K O N nx ou).2 := by
    intro Kx
    unfold l_tutorref03_Check
    rw [br_pos ⟨o1, o2⟩]
  unfold l_tutorref21_Stroll strollS
  by_cases c1 : (checkR k K O N nx ou).2 = 0
  · have F := checkR_fine.1 c1
    rw [if_neg (show ¬ (checkR k K O N nx ou).2 ≠ 0 from fun q => q c1)]
    by_cases c2 : steps < 0
    · rw [if_pos (show steps < 0 ∨ stop < 1 from .inl c2)]
      refine evl_eq (.now fun m => ?_)
      unfold e_tutorref21_Stroll
      rw [hck]
      try dsimp only
      rw [br_ne' c1, br_pos c2]
      rfl
    · by_cases c3 : stop < 1
      · rw [if_pos (show steps < 0 ∨ stop < 1 from .inr c3)]
        refine evl_eq (.now fun m => ?_)
        unfold e_tutorref21_Stroll
        rw [hck]
        try dsimp only
        rw [br_ne' c1, br_neg c2, br_pos c3]
        rfl
      · rw [if_neg (show ¬ (steps < 0 ∨ stop < 1) by omega)]
        by_cases c4 : steps > 65536
        · rw [if_pos c4]
          refine evl_eq (.now fun m => ?_)
          unfold e_tutorref21_Stroll
          rw [hck]
          try dsimp only
          rw [br_ne' c1, br_neg c2, br_neg c3, br_pos c4]
          rfl
        · rw [if_neg c4]
          try dsimp only
          rw [if_pos rfl]
          have hgo := refStroll_go F h (steps := steps) ⟨by omega, by omega⟩ K0 K1 steps.toNat 0 (seedS seed, [], []) (by omega) (way0 K (seedS seed))
          refine evl_eq (.same (fun m => ?_) hgo)
          unfold e_tutorref21_Stroll l_tutorref21_Start
          rw [hck]
          try dsimp only
          rw [br_ne' c1, br_neg c2, br_neg c3, br_neg c4]
          unfold seedS
          by_cases c5 : seed = 0
          · rw [br_eq c5, if_pos c5]
            rfl
          · rw [br_eq' c5, if_neg c5]
            rfl
  · rw [if_pos c1]
    try dsimp only
    rw [if_neg c1]
    refine evl_eq (.now fun m => ?_)
    unfold e_tutorref21_Stroll
    rw [hck]
    try dsimp only
    rw [br_ne c1]

abbrev LT_tutorref01_Same := {R : Type} → (List Int) → (List Int) → (Bool → Option R) → Option R
abbrev GT_tutorref01_Same_4 (R : Type) := (List Int) → (List Int) → Int → Option R
/-- tutor/tutorref01.Same -/
def s_tutorref01_Same_4 {R : Type} (g16_4 : GT_tutorref01_Same_4 R) (K0 : Bool → Option R) (a b : List Int) (i : Int) : Option R :=
  bi (decide (i < (a.length : Int)))
   (bi (decide (0 ≤ i ∧ i < ((a.length : Nat) : Int)))
    (bi (decide (0 ≤ i ∧ i < ((b.length : Nat) : Int)))
     (bi ((a.getD i.toNat 0) != (b.getD i.toNat 0))
      (K0 false)
      (g16_4 a b (IntKind.i64.wrap (i + 1))))
     none)
    none)
   (K0 true)

/-- tutor/tutorref01.Same -/
def e_tutorref01_Same {R : Type} (g16_4 : GT_tutorref01_Same_4 R) (K0 : Bool → Option R) (a b : List Int) : Option R :=
  bi ((a.length : Int) != (b.length : Int))
   (K0 false)
   (g16_4 a b 0)

def run_tutorref01_Same {R : Type} (K0 : Bool → Option R) : Nat → (List Int) → (List Int) → Int → Option R
  | 0 => fun _ _ _ => none
  | n + 1 => s_tutorref01_Same_4 (run_tutorref01_Same K0 n) K0

def l_tutorref01_Same {R : Type} (a : List Int) (b : List Int) (K0 : Bool → Option R) : Option R := bi (decide (short a)) (K0 (decide (a = b))) none

theorem findP_zip {a b : List Int} (hl : a.length = b.length) : findP (fun i => a.getD i 0 != b.getD i 0) (List.range a.length) = none ↔ a = b := by
  rw [findP_none]
  constructor
  · intro h
    refine List.ext_getElem hl fun i h1 h2 => ?_
    have := h i (by simpa using h1)
    rw [getD_of 0 h1, getD_of 0 h2] at this
    simpa using this
  · rintro rfl i _
    simp

theorem ok_tutorref01_Same {R : Type} (a : List Int) (b : List Int) (K0 : Bool → Option R) {r : R} (h : l_tutorref01_Same a b K0 = some r) : ∃ fuel, e_tutorref01_Same (run_tutorref01_Same K0 fuel) K0 a b = some r := by
  unfold l_tutorref01_Same at h
  rcases bi_some h with ⟨hs, h⟩ | ⟨_, h⟩
  · have hs : a.length < 4611686018427387904 := of_decide_eq_true hs
    refine ⟨a.length + 1, ?_⟩
    rw [← h]
    unfold e_tutorref01_Same
    by_cases hl : a.length = b.length
    · rw [br_ne' (by omega)]
      have key := scan_all (F := fun m i => run_tutorref01_Same K0 m a b (i : Int)) (fun i => a.getD i 0 != b.getD i 0) (l := List.range a.length) (A := fun i => K0 false) (B := K0 true)
        (fun m => by
          show s_tutorref01_Same_4 _ _ _ _ _ = _
          unfold s_tutorref01_Same_4
          rw [List.length_range, br_neg (by omega)])
        (fun m i hi => by
          rw [List.length_range] at hi
          show s_tutorref01_Same_4 _ _ _ _ _ = _
          unfold s_tutorref01_Same_4
          rw [br_pos (by omega), br_pos (by omega), br_pos (by omega), br_if, Int.toNat_natCast, wr _ (by omega) (by omega), List.getElem_range]
          rfl)
      rw [List.length_range] at key
      refine key.trans ?_
      by_cases e : a = b
      · rw [(findP_zip hl).2 e]
        simp [e]
      · have : findP (fun i => a.getD i 0 != b.getD i 0) (List.range a.length) ≠ none := fun h => e ((findP_zip hl).1 h)
        cases hf : findP (fun i => a.getD i 0 != b.getD i 0) (List.range a.length) with
        | none => exact absurd hf this
        | some j => simp [e]
    · rw [br_ne (by omega)]
      have e : a ≠ b := fun e => hl (by rw [e])
      simp [e]
  · cases h

theorem same_eq {R : Type} {a b : List Int} (h : short a) (K0 : Bool → Option R) : l_tutorref01_Same a b K0 = K0 (decide (a = b)) := by
  unfold l_tutorref01_Same
  rw [br_pos h]

abbrev LT_tutorref01_Lists := {R : Type} → (List (List Int)) → (List (List Int)) → (Bool → Option R) → Option R
abbrev GT_tutorref01_Lists_4 (R : Type) := (List (List Int)) → (List (List Int)) → Int → Option R
/-- tutor/tutorref01.Lists -/
def s_tutorref01_Lists_4 {R : Type} (g20_4 : GT_tutorref01_Lists_4 R) (K0 : Bool → Option R) (a b : List (List Int)) (i : Int) : Option R :=
  bi (decide (i < (a.length : Int)))
   (bi (decide (0 ≤ i ∧ i < ((a.length : Nat) : Int)))
    (bi (decide (0 ≤ i ∧ i < ((b.length : Nat) : Int)))
     (l_tutorref01_Same (a.getD i.toNat []) (b.getD i.toNat [])
      (fun r1 =>
       bi (!r1)
        (K0 false)
        (g20_4 a b (IntKind.i64.wrap (i + 1)))))
     none)
    none)
   (K0 true)

/-- tutor/tutorref01.Lists -/
def e_tutorref01_Lists {R : Type} (g20_4 : GT_tutorref01_Lists_4 R) (K0 : Bool → Option R) (a b : List (List Int)) : Option R :=
  bi ((a.length : Int) != (b.length : Int))
   (K0 false)
   (g20_4 a b 0)

def run_tutorref01_Lists {R : Type} (K0 : Bool → Option R) : Nat → (List (List Int)) → (List (List Int)) → Int → Option R
  | 0 => fun _ _ _ => none
  | n + 1 => s_tutorref01_Lists_4 (run_tutorref01_Lists K0 n) K0

def shortR (a : List (List Int)) : Prop := short a ∧ ∀ x ∈ a, short x
instance (a : List (List Int)) : Decidable (shortR a) := by unfold shortR; infer_instance

def l_tutorref01_Lists {R : Type} (a : List (List Int)) (b : List (List Int)) (K0 : Bool → Option R) : Option R := bi (decide (shortR a)) (K0 (decide (a = b))) none

theorem listsLoop {R : Type} {a b : List (List Int)} (ha : shortR a) (hl : a.length = b.length) (K0 : Bool → Option R) : ∀ (d i : Nat), i + d = a.length → a.take i = b.take i → Reach (fun m => run_tutorref01_Lists K0 m a b (i : Int)) (K0 (decide (a = b))) := by
  have hs : a.length < 4611686018427387904 := ha.1
  intro d
  induction d with
  | zero =>
    intro i hi ht
    refine .now fun m => ?_
    dsimp only [run_tutorref01_Lists]
    unfold s_tutorref01_Lists_4
    rw [List.take_of_length_le (by omega), List.take_of_length_le (by omega)] at ht
    rw [br_neg (by omega), ht]
    simp
  | succ d ih =>
    intro i hi ht
    have h1 : i < a.length := by omega
    have h2 : i < b.length := by omega
    by_cases he : a[i] = b[i]
    · refine .step (fun m => ?_) (ih (i + 1) (by omega) ?_)
      · dsimp only [run_tutorref01_Lists]
        unfold s_tutorref01_Lists_4
        rw [br_pos (by omega), br_pos (by omega), br_pos (by omega), Int.toNat_natCast, getD_of [] h1, getD_of [] h2, same_eq (ha.2 _ (List.getElem_mem h1)), decide_eq_true he, Bool.not_true, br_ff, wr _ (by omega) (by omega)]
        rfl
      · rw [List.take_add_one, List.take_add_one, ht, List.getElem?_eq_getElem h1, List.getElem?_eq_getElem h2, he]
    · refine .now fun m => ?_
      dsimp only [run_tutorref01_Lists]
      unfold s_tutorref01_Lists_4
      have hne : ¬ a = b := fun e => he (by subst e; rfl)
      rw [br_pos (by omega), br_pos (by omega), br_pos (by omega), Int.toNat_natCast, getD_of [] h1, getD_of [] h2, same_eq (ha.2 _ (List.getElem_mem h1)), decide_eq_false he, Bool.not_false, br_tt, decide_eq_false hne]

theorem ok_tutorref01_Lists {R : Type} (a : List (List Int)) (b : List (List Int)) (K0 : Bool → Option R) {r : R} (h : l_tutorref01_Lists a b K0 = some r) : ∃ fuel, e_tutorref01_Lists (run_tutorref01_Lists K0 fuel) K0 a b = some r := by
  unfold l_tutorref01_Lists at h
  rcases bi_some h with ⟨hs, h⟩ | ⟨_, h⟩
  · have ha : shortR a := of_decide_eq_true hs
    rw [← h]
    unfold e_tutorref01_Lists
    by_cases hl : a.length = b.length
    · obtain ⟨n, hn⟩ := (listsLoop ha hl K0 a.length 0 (by omega) (by simp)).get
      exact ⟨n, by rw [br_ne' (by omega)]; exact hn⟩
    · have hne : ¬ a = b := fun e => hl (by rw [e])
      exact ⟨0, by rw [br_ne (by omega), decide_eq_false hne]⟩
  · cases h

theorem lists_eq {R : Type} {a b : List (List Int)} (h : shortR a) (K0 : Bool → Option R) : l_tutorref01_Lists a b K0 = K0 (decide (a = b)) := by
  unfold l_tutorref01_Lists
  rw [br_pos h]

abbrev LT_tutorref21_Same := {R : Type} → (List (List Int)) → (List Int) → (List Int) → (List (List Int)) → (List Int) → (List Int) → (Bool → Option R) → Option R
/-- tutor/tutorref21.Same -/
def l_tutorref21_Same {R : Type} (a : List (List Int)) (a_1 a_2 : List Int) (b : List (List Int)) (b_1 b_2 : List Int) (K0 : Bool → Option R) : Option R :=
  l_tutorref01_Lists a b
   (fun r1 =>
    bi r1
     (l_tutorref01_Same a_1 b_1
      (fun r2 =>
       bi r2
        (l_tutorref01_Same a_2 b_2
         (fun r3 =>
          K0 r3))
        (K0 false)))
     (K0 false))

abbrev LT_tutorlaw21_num := {R : Type} → Int → (Int → Option R) → Option R
/-- tutor/tutorlaw21.num -/
def l_tutorlaw21_num {R : Type} (e : Int) (K0 : Int → Option R) : Option R :=
  K0 e

abbrev LT_tutorref03_Same := {R : Type} → Int → Int → Int → Int → (List Int) → (List Int) → Int → Int → Int → Int → (List Int) → (List Int) → (Bool → Option R) → Option R
/-- tutor/tutorref03.Same -/
def l_tutorref03_Same {R : Type} (a a_1 a_2 a_3 : Int) (a_4 a_5 : List Int) (b b_1 b_2 b_3 : Int) (b_4 b_5 : List Int) (K0 : Bool → Option R) : Option R :=
  bi (a == b)
   (bi (a_1 == b_1)
    (bi (a_2 == b_2)
     (bi (a_3 == b_3)
      (l_tutorref01_Same a_4 b_4
       (fun r1 =>
        bi r1
         (l_tutorref01_Same a_5 b_5
          (fun r2 =>
           K0 r2))
         (K0 false)))
      (K0 false))
     (K0 false))
    (K0 false))
   (K0 false)

theorem sameM_eq {R : Type} {k K O N : Int} {nx ou : List Int} (h1 : short nx) (h2 : short ou) (K0 : Bool → Option R) :
    l_tutorref03_Same k K O N nx ou k K O N nx ou K0 = K0 true := by
  unfold l_tutorref03_Same
  rw [br_eq rfl, br_eq rfl, br_eq rfl, br_eq rfl, same_eq h1]
  try dsimp only
  rw [br_pos rfl, same_eq h2]
  simp

abbrev LT_tutorlaw21_WalkStrolls := {R : Type} → Int → Int → Int → Int → (List Int) → (List Int) → Int → Int → Int → (Bool → Option R) → Option R
/-- tutor/tutorlaw21.WalkStrolls -/
def l_tutorlaw21_WalkStrolls {R : Type} (m m_1 m_2 m_3 : Int) (m_4 m_5 : List Int) (seed steps stop : Int) (K0 : Bool → Option R) : Option R :=
  l_tutorref03_Big m m_1 m_2 m_3 m_4 m_5 60
   (fun r1 =>
    bi r1
     (l_tutorlaw21_live
      (fun r2 =>
       K0 r2))
     (bi (decide (steps > 2000))
      (bi (decide (steps ≤ 65536))
       (l_tutorlaw21_live
        (fun r3 =>
         K0 r3))
       (l_tutorref03_Copy m m_1 m_2 m_3 m_4 m_5
        (fun r4 r5 r6 r7 r8 r9 =>
         l_walk_Stroll r4 r5 r6 r7 r8 r9 seed steps stop
          (fun r10 r11 r12 r13 =>
           l_tutorref21_Stroll m m_1 m_2 m_3 m_4 m_5 seed steps stop
            (fun r14 r15 r16 r17 =>
             l_tutorref21_Same r11 r12 r13 r15 r16 r17
              (fun r18 =>
               bi r18
                (l_tutorlaw21_num r10
                 (fun r19 =>
                  bi (r19 == r14)
                   (l_tutorref03_Same r4 r5 r6 r7 r8 r9 m m_1 m_2 m_3 m_4 m_5
                    (fun r20 =>
                     bi r20
                      (l_tutorlaw21_live
                       (fun r21 =>
                        K0 r21))
                      (K0 false)))
                   (K0 false)))
                (K0 false)))
            (fun r22 r23 r24 r25 =>
             l_tutorref21_Same r11 r12 r13 r22 r24 r25
              (fun r26 =>
               bi r26
                (l_tutorlaw21_num r10
                 (fun r27 =>
                  bi (r27 == r23)
                   (l_tutorref03_Same r4 r5 r6 r7 r8 r9 m m_1 m_2 m_3 m_4 m_5
                    (fun r28 =>
                     bi r28
                      (l_tutorlaw21_live
                       (fun r29 =>
                        K0 r29))
                      (K0 false)))
                   (K0 false)))
                (K0 false)))))))
      (l_tutorref03_Copy m m_1 m_2 m_3 m_4 m_5
       (fun r30 r31 r32 r33 r34 r35 =>
        l_walk_Stroll r30 r31 r32 r33 r34 r35 seed steps stop
         (fun r36 r37 r38 r39 =>
          l_tutorref21_Stroll m m_1 m_2 m_3 m_4 m_5 seed steps stop
           (fun r40 r41 r42 r43 =>
            l_tutorref21_Same r37 r38 r39 r41 r42 r43
             (fun r44 =>
              bi r44
               (l_tutorlaw21_num r36
                (fun r45 =>
                 bi (r45 == r40)
                  (l_tutorref03_Same r30 r31 r32 r33 r34 r35 m m_1 m_2 m_3 m_4 m_5
                   (fun r46 =>
                    bi r46
                     (l_tutorlaw21_live
                      (fun r47 =>
                       K0 r47))
                     (K0 false)))
                  (K0 false)))
               (K0 false)))
           (fun r48 r49 r50 r51 =>
            l_tutorref21_Same r37 r38 r39 r48 r50 r51
             (fun r52 =>
              bi r52
               (l_tutorlaw21_num r36
                (fun r53 =>
                 bi (r53 == r49)
                  (l_tutorref03_Same r30 r31 r32 r33 r34 r35 m m_1 m_2 m_3 m_4 m_5
                   (fun r54 =>
                    bi r54
                     (l_tutorlaw21_live
                      (fun r55 =>
                       K0 r55))
                     (K0 false)))
                  (K0 false)))
               (K0 false))))))))

theorem stroll_short {k K O N : Int} {nx ou : List Int} {seed steps stop : Int} (o1 : short nx) : shortR (strollS k K O N nx ou seed steps stop).2.1 ∧ short (strollS k K O N nx ou seed steps stop).2.2.1 ∧ short (strollS k K O N nx ou seed steps stop).2.2.2 := by
  have e1 : shortR [] := ⟨by unfold short; simp, fun w hw => by cases hw⟩
  have e2 : short ([] : List Int) := by unfold short; simp
  unfold strollS
  by_cases c1 : (checkR k K O N nx ou).2 ≠ 0
  · rw [if_pos c1]
    exact ⟨e1, e2, e2⟩
  rw [if_neg c1]
  by_cases c2 : steps < 0 ∨ stop < 1
  · rw [if_pos c2]
    exact ⟨e1, e2, e2⟩
  rw [if_neg c2]
  by_cases c3 : steps > 65536
  · rw [if_pos c3]
    exact ⟨e1, e2, e2⟩
  rw [if_neg c3]
  have F := checkR_fine.1 (by simpa using c1 : (checkR k K O N nx ou).2 = 0)
  have hN := F.fN
  obtain ⟨w1, w2, w3⟩ := wordsS_ok (stop := stop) (seed := seed) (steps := steps) F.fK
  have T := told_sane F (ws := wordsS stop K seed steps) fun w hw => (w1 w hw).2
  have h2 := T.2.1
  have h3 := T.2.2
  unfold short at o1
  try dsimp only
  exact ⟨⟨by unfold short; omega, fun w hw => by
    have := (w1 w hw).1
    unfold short
    omega⟩, by unfold short; omega, by unfold short; omega⟩

theorem sameT_eq {R : Type} {ws : List (List Int)} {a b : List Int} (h : shortR ws) (h1 : short a) (h2 : short b) (K0 : Bool → Option R) : l_tutorref21_Same ws a b ws a b K0 = K0 true := by
  unfold l_tutorref21_Same
  rw [lists_eq h, decide_eq_true rfl]
  try dsimp only
  rw [br_tt, same_eq h1, decide_eq_true rfl]
  try dsimp only
  rw [br_tt, same_eq h2, decide_eq_true rfl]

theorem law_tutorlaw21_WalkStrolls {R : Type} (k K O N : Int) (nx ou : List Int) (seed steps stop : Int) (K0 : Bool → Option R) (hk : inI k) (hK : inI K) (hO : inI O) (hN : inI N) (hn : okW nx) (ho : okW ou) (hseed : inU seed) (hsteps : inI steps) (hstop : inI stop) :
    l_tutorlaw21_WalkStrolls k K O N nx ou seed steps stop K0 = K0 true := by
  unfold l_tutorlaw21_WalkStrolls
  by_cases hb : N ≤ 60 ∧ nx.length ≤ 70000 ∧ ou.length ≤ 70000
  · rw [big_f hb, br_ff]
    have o1 : okL nx := hn.okL (by unfold short; omega)
    have o2 : okL ou := ho.okL (by unfold short; omega)
    obtain ⟨s1, s2, s3⟩ := stroll_short (k := k) (K := K) (O := O) (N := N) (nx := nx) (ou := ou) (seed := seed) (steps := steps) (stop := stop) o1.1
    have main : ∀ (X : Option R), X = (l_tutorref03_Copy k K O N nx ou
        (fun r30 r31 r32 r33 r34 r35 =>
         l_walk_Stroll r30 r31 r32 r33 r34 r35 seed steps stop
          (fun r36 r37 r38 r39 =>
           l_tutorref21_Stroll k K O N nx ou seed steps stop
            (fun r40 r41 r42 r43 =>
             l_tutorref21_Same r37 r38 r39 r41 r42 r43
              (fun r44 =>
               bi r44
                (l_tutorlaw21_num r36
                 (fun r45 =>
                  bi (r45 == r40)
                   (l_tutorref03_Same r30 r31 r32 r33 r34 r35 k K O N nx ou
                    (fun r46 =>
                     bi r46
                      (l_tutorlaw21_live
                       (fun r47 =>
                        K0 r47))
                      (K0 false)))
                   (K0 false)))
                (K0 false)))
            (fun r48 r49 r50 r51 =>
             l_tutorref21_Same r37 r38 r39 r48 r50 r51
              (fun r52 =>
               bi r52
                (l_tutorlaw21_num r36
                 (fun r53 =>
                  bi (r53 == r49)
                   (l_tutorref03_Same r30 r31 r32 r33 r34 r35 k K O N nx ou
                    (fun r54 =>
                     bi r54
                      (l_tutorlaw21_live
                       (fun r55 =>
                        K0 r55))
                      (K0 false)))
                   (K0 false)))
                (K0 false)))))) → X = K0 true := by
      rintro X rfl
      rw [copy_eq hb.2.1 hb.2.2, stroll_eq o1 o2 hstop]
      try dsimp only
      rw [refStroll_eq o1.1 o2.1 hstop]
      by_cases c : (strollS k K O N nx ou seed steps stop).1 = 0
      · rw [if_pos c]
        try dsimp only
        rw [sameT_eq s1 s2 s3]
        try dsimp only [l_tutorlaw21_num]
        rw [br_tt, br_eq c, sameM_eq o1.1 o2.1]
        try dsimp only
        rw [br_tt, live21]
      · rw [if_neg c]
        try dsimp only
        rw [sameT_eq s1 s2 s3]
        try dsimp only [l_tutorlaw21_num]
        rw [br_tt, br_eq rfl, sameM_eq o1.1 o2.1]
        try dsimp only
        rw [br_tt, live21]
    by_cases c1 : steps > 2000
    · rw [br_pos c1]
      by_cases c2 : steps ≤ 65536
      · rw [br_pos c2, live21]
      · rw [br_neg c2]
        exact main _ rfl
    · rw [br_neg c1]
      exact main _ rfl
  · rw [big_t hb, br_tt, live21]

end
end Go.Ev
