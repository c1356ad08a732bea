/- Functions of the program, as trees of tests over numbers and lists; no program in sight. -/
import Derived.Test.YtdnjhojjicjndaaEvMach
import Derived.Test.YtdnjhojjicjndaaEvWord
import Derived.Test.YtdnjhojjicjndaaEvWalk21
import Derived.Test.YtdnjhojjicjndaaEvTrip
import Derived.Test.YtdnjhojjicjndaaEvLots
import Derived.Test.YtdnjhojjicjndaaEvBfs
import Derived.Test.YtdnjhojjicjndaaEvBfs2
import Derived.Test.YtdnjhojjicjndaaEvBfs3
import Derived.Test.YtdnjhojjicjndaaEvHunt
namespace Go.Ev
noncomputable section
set_option linter.unusedVariables false
set_option linter.unusedSimpArgs false
set_option maxRecDepth 100000
set_option maxHeartbeats 4000000

abbrev LT_tutorref03_Big := {R : Type} → Int → Int → Int → Int → (List Int) → (List Int) → Int → (Bool → Option R) → Option R
/-- tutor/tutorref03.Big -/
def l_tutorref03_Big {R : Type} (m m_1 m_2 m_3 : Int) (m_4 m_5 : List Int) (states : Int) (K0 : Bool → Option R) : Option R :=
  bi (decide (m_3 > states))
   (K0 true)
   (bi (decide ((m_4.length : Int) > 70000))
    (K0 true)
    (K0 (decide ((m_5.length : Int) > 70000))))

theorem big_cases {R : Type} (k K O N : Int) (nx ou : List Int) (states : Int) (K0 : Bool → Option R) :
    (l_tutorref03_Big k K O N nx ou states K0 = K0 true) ∨ (N ≤ states ∧ nx.length ≤ 70000 ∧ ou.length ≤ 70000 ∧ l_tutorref03_Big k K O N nx ou states K0 = K0 false) := by
  unfold l_tutorref03_Big
  by_cases h1 : N > states
  · exact .inl (by rw [br_pos h1])
  rw [br_neg h1]
  by_cases h2 : (nx.length : Int) > 70000
  · exact .inl (by rw [br_pos h2])
  rw [br_neg h2]
  by_cases h3 : (ou.length : Int) > 70000
  · exact .inl (by rw [decide_eq_true h3])
  · exact .inr ⟨by omega, by omega, by omega, by rw [decide_eq_false h3]⟩

abbrev LT_walk_New := {R : Type} → Int → (Int → Option R) → Option R
/-- tutor/walk.New -/
def l_walk_New {R : Type} (seed : Int) (K0 : Int → Option R) : Option R :=
  bi (seed == 0)
   (K0 88172645463325252)
   (K0 seed)

theorem new_eq {R : Type} (seed : Int) (K0 : Int → Option R) : l_walk_New seed K0 = K0 (if seed = 0 then 88172645463325252 else seed) := by
  unfold l_walk_New
  by_cases h : seed = 0
  · rw [br_eq h, if_pos h]
  · rw [br_eq' h, if_neg h]

abbrev LT_tutorref21_Int := {R : Type} → Int → Int → (Int → Int → Option R) → Option R
/-- tutor/tutorref21.Int -/
def l_tutorref21_Int {R : Type} (x n : Int) (K0 : Int → Int → Option R) : Option R :=
  bi (decide (n < 1))
   (K0 0 x)
   (bi (decide ((IntKind.u64.wrap n) = 0))
    none
    (K0 (IntKind.i64.wrap (((IntKind.u64.wrap ((IntKind.u64.wrap (BitVec.ofInt 64 (IntKind.u64.wrap (BitVec.ofInt 64 (IntKind.u64.wrap (BitVec.ofInt 64 x ^^^ BitVec.ofInt 64 (x.fdiv (2 ^ (min (12 : Int).toNat 64)))).toNat) ^^^ BitVec.ofInt 64 (IntKind.u64.wrap ((IntKind.u64.wrap (BitVec.ofInt 64 x ^^^ BitVec.ofInt 64 (x.fdiv (2 ^ (min (12 : Int).toNat 64)))).toNat) * 2 ^ (min (25 : Int).toNat 64)))).toNat) ^^^ BitVec.ofInt 64 ((IntKind.u64.wrap (BitVec.ofInt 64 (IntKind.u64.wrap (BitVec.ofInt 64 x ^^^ BitVec.ofInt 64 (x.fdiv (2 ^ (min (12 : Int).toNat 64)))).toNat) ^^^ BitVec.ofInt 64 (IntKind.u64.wrap ((IntKind.u64.wrap (BitVec.ofInt 64 x ^^^ BitVec.ofInt 64 (x.fdiv (2 ^ (min (12 : Int).toNat 64)))).toNat) * 2 ^ (min (25 : Int).toNat 64)))).toNat).fdiv (2 ^ (min (27 : Int).toNat 64)))).toNat) * 2685821657736338717)).fdiv (2 ^ (min (33 : Int).toNat 64))).tmod (IntKind.u64.wrap n))) (IntKind.u64.wrap (BitVec.ofInt 64 (IntKind.u64.wrap (BitVec.ofInt 64 (IntKind.u64.wrap (BitVec.ofInt 64 x ^^^ BitVec.ofInt 64 (x.fdiv (2 ^ (min (12 : Int).toNat 64)))).toNat) ^^^ BitVec.ofInt 64 (IntKind.u64.wrap ((IntKind.u64.wrap (BitVec.ofInt 64 x ^^^ BitVec.ofInt 64 (x.fdiv (2 ^ (min (12 : Int).toNat 64)))).toNat) * 2 ^ (min (25 : Int).toNat 64)))).toNat) ^^^ BitVec.ofInt 64 ((IntKind.u64.wrap (BitVec.ofInt 64 (IntKind.u64.wrap (BitVec.ofInt 64 x ^^^ BitVec.ofInt 64 (x.fdiv (2 ^ (min (12 : Int).toNat 64)))).toNat) ^^^ BitVec.ofInt 64 (IntKind.u64.wrap ((IntKind.u64.wrap (BitVec.ofInt 64 x ^^^ BitVec.ofInt 64 (x.fdiv (2 ^ (min (12 : Int).toNat 64)))).toNat) * 2 ^ (min (25 : Int).toNat 64)))).toNat).fdiv (2 ^ (min (27 : Int).toNat 64)))).toNat)))

theorem refInt_eq {R : Type} {n x : Int} (hn : inI n) (K0 : Int → Int → Option R) : l_tutorref21_Int x n K0 = K0 (intS n x).1 (intS n x).2 := by
  obtain ⟨_, h2⟩ := hn
  unfold l_tutorref21_Int intS
  by_cases h : n < 1
  · rw [br_pos h, if_pos h]
  · rw [br_neg h, if_neg h]
    rw [br_neg (by rw [wru, Int.emod_eq_of_lt (by omega) (by omega)]; omega)]
    rfl

abbrev LT_walk_source_draw := {R : Type} → Int → (Int → Int → Option R) → Option R
/-- (*tutor/walk.source).draw -/
def l_walk_source_draw {R : Type} (o0 : Int) (K0 : Int → Int → Option R) : Option R :=
  K0 ((IntKind.u64.wrap ((IntKind.u64.wrap (BitVec.ofInt 64 (IntKind.u64.wrap (BitVec.ofInt 64 (IntKind.u64.wrap (BitVec.ofInt 64 o0 ^^^ BitVec.ofInt 64 (o0.fdiv (2 ^ (min (12 : Int).toNat 64)))).toNat) ^^^ BitVec.ofInt 64 (IntKind.u64.wrap ((IntKind.u64.wrap (BitVec.ofInt 64 o0 ^^^ BitVec.ofInt 64 (o0.fdiv (2 ^ (min (12 : Int).toNat 64)))).toNat) * 2 ^ (min (25 : Int).toNat 64)))).toNat) ^^^ BitVec.ofInt 64 ((IntKind.u64.wrap (BitVec.ofInt 64 (IntKind.u64.wrap (BitVec.ofInt 64 o0 ^^^ BitVec.ofInt 64 (o0.fdiv (2 ^ (min (12 : Int).toNat 64)))).toNat) ^^^ BitVec.ofInt 64 (IntKind.u64.wrap ((IntKind.u64.wrap (BitVec.ofInt 64 o0 ^^^ BitVec.ofInt 64 (o0.fdiv (2 ^ (min (12 : Int).toNat 64)))).toNat) * 2 ^ (min (25 : Int).toNat 64)))).toNat).fdiv (2 ^ (min (27 : Int).toNat 64)))).toNat) * 2685821657736338717)).fdiv (2 ^ (min (33 : Int).toNat 64))) (IntKind.u64.wrap (BitVec.ofInt 64 (IntKind.u64.wrap (BitVec.ofInt 64 (IntKind.u64.wrap (BitVec.ofInt 64 o0 ^^^ BitVec.ofInt 64 (o0.fdiv (2 ^ (min (12 : Int).toNat 64)))).toNat) ^^^ BitVec.ofInt 64 (IntKind.u64.wrap ((IntKind.u64.wrap (BitVec.ofInt 64 o0 ^^^ BitVec.ofInt 64 (o0.fdiv (2 ^ (min (12 : Int).toNat 64)))).toNat) * 2 ^ (min (25 : Int).toNat 64)))).toNat) ^^^ BitVec.ofInt 64 ((IntKind.u64.wrap (BitVec.ofInt 64 (IntKind.u64.wrap (BitVec.ofInt 64 o0 ^^^ BitVec.ofInt 64 (o0.fdiv (2 ^ (min (12 : Int).toNat 64)))).toNat) ^^^ BitVec.ofInt 64 (IntKind.u64.wrap ((IntKind.u64.wrap (BitVec.ofInt 64 o0 ^^^ BitVec.ofInt 64 (o0.fdiv (2 ^ (min (12 : Int).toNat 64)))).toNat) * 2 ^ (min (25 : Int).toNat 64)))).toNat).fdiv (2 ^ (min (27 : Int).toNat 64)))).toNat)

abbrev LT_walk_Walk_Int := {R : Type} → Int → Int → (Int → Int → Option R) → Option R
/-- (*tutor/walk.Walk).Int -/
def l_walk_Walk_Int {R : Type} (n o0 : Int) (K0 : Int → Int → Option R) : Option R :=
  bi (decide (n < 1))
   (K0 0 o0)
   (l_walk_source_draw o0
    (fun r1 r2 =>
     bi (decide ((IntKind.u64.wrap n) = 0))
      none
      (K0 (IntKind.i64.wrap (r1.tmod (IntKind.u64.wrap n))) r2)))

theorem walkInt_eq {R : Type} {n x : Int} (hn : inI n) (K0 : Int → Int → Option R) : l_walk_Walk_Int n x K0 = K0 (intS n x).1 (intS n x).2 := by
  obtain ⟨_, h2⟩ := hn
  unfold l_walk_Walk_Int l_walk_source_draw intS
  by_cases h : n < 1
  · rw [br_pos h, if_pos h]
  · rw [br_neg h, if_neg h]
    dsimp only
    rw [br_neg (by rw [wru, Int.emod_eq_of_lt (by omega) (by omega)]; omega)]
    rfl

abbrev LT_tutorlaw21_live := {R : Type} → (Bool → Option R) → Option R
/-- tutor/tutorlaw21.live -/
def l_tutorlaw21_live {R : Type}  (K0 : Bool → Option R) : Option R :=
  l_walk_New 1
   (fun r1 =>
    l_tutorref21_Int 1 1000
     (fun r2 r3 =>
      l_tutorref21_Int r3 1000
       (fun r4 r5 =>
        l_walk_Walk_Int 1000 r1
         (fun r6 r7 =>
          bi (r6 == r2)
           (l_walk_Walk_Int 1000 r7
            (fun r8 r9 =>
             bi (r8 == r4)
              (K0 (r2 != r4))
              (K0 false)))
           (K0 false)))))

theorem live21 {R : Type} (K0 : Bool → Option R) : l_tutorlaw21_live K0 = K0 true := by
  unfold l_tutorlaw21_live l_walk_New
  rw [br_eq' (by decide)]
  dsimp only
  rw [refInt_eq (by decide)]
  try dsimp only
  rw [refInt_eq (by decide)]
  try dsimp only
  rw [walkInt_eq (by decide)]
  try dsimp only
  rw [br_eq rfl, walkInt_eq (by decide)]
  try dsimp only
  rw [br_eq rfl]
  have e : ((intS 1000 1).1 != (intS 1000 (intS 1000 1).2).1) = true := by kernel_rfl
  rw [e]

abbrev LT_machine_says := {R : Type} → Int → Int → Int → Int → (List Int) → (List Int) → (Int → Option R) → Option R
/-- tutor/machine.says -/
def l_machine_says {R : Type} (m m_1 m_2 m_3 : Int) (m_4 m_5 : List Int) (K0 : Int → Option R) : Option R :=
  bi (m == 1)
   (K0 m_3)
   (K0 (IntKind.i64.wrap (m_3 * m_1)))

abbrev LT_machine_head := {R : Type} → Int → Int → Int → Int → (List Int) → (List Int) → (Int → Option R) → Option R
/-- tutor/machine.head -/
def l_machine_head {R : Type} (m m_1 m_2 m_3 : Int) (m_4 m_5 : List Int) (K0 : Int → Option R) : Option R :=
  bi (m != 1)
   (bi (m != 2)
    (K0 30)
    (bi (decide (m_1 < 1))
     (K0 1)
     (bi (decide (m_1 > 64))
      (K0 1)
      (bi (m == 1)
       (bi (m_2 != 2)
        (K0 33)
        (bi (decide (m_2 < 1))
         (K0 33)
         (bi (decide (m_2 > 64))
          (K0 33)
          (bi (decide (m_3 < 1))
           (K0 3)
           (bi (decide (m_3 > 1024))
            (K0 3)
            (bi ((m_4.length : Int) != (IntKind.i64.wrap (m_3 * m_1)))
             (K0 31)
             (l_machine_says m m_1 m_2 m_3 m_4 m_5
              (fun r1 =>
               bi ((m_5.length : Int) != r1)
                (K0 31)
                (K0 0)))))))))
       (bi (decide (m_2 < 1))
        (K0 33)
        (bi (decide (m_2 > 64))
         (K0 33)
         (bi (decide (m_3 < 1))
          (K0 3)
          (bi (decide (m_3 > 1024))
           (K0 3)
           (bi ((m_4.length : Int) != (IntKind.i64.wrap (m_3 * m_1)))
            (K0 31)
            (l_machine_says m m_1 m_2 m_3 m_4 m_5
             (fun r2 =>
              bi ((m_5.length : Int) != r2)
               (K0 31)
               (K0 0))))))))))))
   (bi (decide (m_1 < 1))
    (K0 1)
    (bi (decide (m_1 > 64))
     (K0 1)
     (bi (m == 1)
      (bi (m_2 != 2)
       (K0 33)
       (bi (decide (m_2 < 1))
        (K0 33)
        (bi (decide (m_2 > 64))
         (K0 33)
         (bi (decide (m_3 < 1))
          (K0 3)
          (bi (decide (m_3 > 1024))
           (K0 3)
           (bi ((m_4.length : Int) != (IntKind.i64.wrap (m_3 * m_1)))
            (K0 31)
            (l_machine_says m m_1 m_2 m_3 m_4 m_5
             (fun r3 =>
              bi ((m_5.length : Int) != r3)
               (K0 31)
               (K0 0)))))))))
      (bi (decide (m_2 < 1))
       (K0 33)
       (bi (decide (m_2 > 64))
        (K0 33)
        (bi (decide (m_3 < 1))
         (K0 3)
         (bi (decide (m_3 > 1024))
          (K0 3)
          (bi ((m_4.length : Int) != (IntKind.i64.wrap (m_3 * m_1)))
           (K0 31)
           (l_machine_says m m_1 m_2 m_3 m_4 m_5
            (fun r4 =>
             bi ((m_5.length : Int) != r4)
              (K0 31)
              (K0 0)))))))))))

theorem head_eq {R : Type} (k K O N : Int) (nx ou : List Int) (K0 : Int → Option R) : l_machine_head k K O N nx ou K0 = K0 (headS k K O N nx ou) := by
  unfold l_machine_head l_machine_says headS
  simp only [br_if, bne_iff_ne, beq_iff_eq, decide_eq_true_eq, ne_eq]
  by_cases hb : (1 ≤ N ∧ N ≤ 1024) ∧ 1 ≤ K ∧ K ≤ 64
  · have := mulK hb
    rw [wr (N * K) (by omega) (by omega)]
    repeat' (refine ite_l (fun _ => ?_) (fun _ => ?_))
    all_goals
      refine congrArg K0 ?_
      repeat' (refine ite_r (fun _ => ?_) (fun _ => ?_))
      all_goals omega
  · repeat' (refine ite_l (fun _ => ?_) (fun _ => ?_))
    all_goals
      refine congrArg K0 ?_
      repeat' (refine ite_r (fun _ => ?_) (fun _ => ?_))
      all_goals omega

abbrev LT_machine_beyond := {R : Type} → (List Int) → Int → (Int → Option R) → Option R
abbrev GT_machine_beyond_2 (R : Type) := (List Int) → Int → Int → Int → Option R
/-- tutor/machine.beyond -/
def s_machine_beyond_2 {R : Type} (g50_2 : GT_machine_beyond_2 R) (K0 : Int → Option R) (l : List Int) (n x7 x8 : Int) : Option R :=
  bi (decide (x8 < x7))
   (bi (decide (0 ≤ x8 ∧ x8 < ((l.length : Nat) : Int)))
    (bi (decide ((IntKind.u64.wrap (l.getD x8.toNat 0)) ≥ (IntKind.u64.wrap n)))
     (K0 x8)
     (g50_2 l n x7 (IntKind.i64.wrap (x8 + 1))))
    none)
   (K0 (-1))

/-- tutor/machine.beyond -/
def e_machine_beyond {R : Type} (g50_2 : GT_machine_beyond_2 R) (K0 : Int → Option R) (l : List Int) (n : Int) : Option R :=
  g50_2 l n (l.length : Int) 0

def run_machine_beyond {R : Type} (K0 : Int → Option R) : Nat → (List Int) → Int → Int → Int → Option R
  | 0 => fun _ _ _ _ => none
  | n + 1 => s_machine_beyond_2 (run_machine_beyond K0 n) K0

def l_machine_beyond {R : Type} (l : List Int) (n : Int) (K0 : Int → Option R) : Option R := bi (decide (short l)) (K0 (beyondS n l)) none

theorem ok_machine_beyond {R : Type} (l : List Int) (n : Int) (K0 : Int → Option R) {r : R} (h : l_machine_beyond l n K0 = some r) : ∃ fuel, e_machine_beyond (run_machine_beyond K0 fuel) K0 l n = some r := by
  unfold l_machine_beyond at h
  rcases bi_some h with ⟨hs, h⟩ | ⟨_, h⟩
  · have hs : l.length < 4611686018427387904 := of_decide_eq_true hs
    refine ⟨l.length + 1, ?_⟩
    rw [← h]
    have key := scan_all (F := fun m i => run_machine_beyond K0 m l n (l.length : Int) (i : Int)) (bad n) (l := l) (A := fun i => K0 i) (B := K0 (-1))
      (fun m => by
        show s_machine_beyond_2 _ _ _ _ _ _ = _
        unfold s_machine_beyond_2
        rw [br_neg (by omega)])
      (fun m i hi => by
        show s_machine_beyond_2 _ _ _ _ _ _ = _
        unfold s_machine_beyond_2
        rw [br_pos (by omega), br_pos (by omega), br_if, Int.toNat_natCast, getD_of 0 hi, wr _ (by omega) (by omega)]
        rfl)
    unfold e_machine_beyond beyondS
    refine key.trans ?_
    cases findP (bad n) l <;> rfl
  · cases h

abbrev LT_machine_Check := {R : Type} → Int → Int → Int → Int → (List Int) → (List Int) → (Int → Int → Option R) → Option R
/-- tutor/machine.Check -/
def l_machine_Check {R : Type} (m m_1 m_2 m_3 : Int) (m_4 m_5 : List Int) (K0 : Int → Int → Option R) : Option R :=
  l_machine_head m m_1 m_2 m_3 m_4 m_5
   (fun r1 =>
    bi (r1 != 0)
     (K0 0 r1)
     (l_machine_beyond m_4 m_3
      (fun r2 =>
       bi (decide (r2 ≥ 0))
        (K0 r2 32)
        (l_machine_beyond m_5 m_2
         (fun r3 =>
          bi (decide (r3 ≥ 0))
           (K0 r3 33)
           (K0 0 0))))))

theorem check_eq {R : Type} (k K O N : Int) (nx ou : List Int) (h1 : short nx) (h2 : short ou) (K0 : Int → Int → Option R) :
    l_machine_Check k K O N nx ou K0 = K0 (checkS k K O N nx ou).1 (checkS k K O N nx ou).2 := by
  unfold l_machine_Check checkS l_machine_beyond beyondS
  rw [head_eq]
  by_cases h : headS k K O N nx ou = 0
  · rw [br_ne' h, if_neg (by simpa using h), br_pos h1]
    cases hf : findP (bad N) nx with
    | some i => simp only [br_pos (show ((i : Nat) : Int) ≥ 0 by omega)]
    | none =>
      simp only [br_neg (show ¬ ((-1 : Int) ≥ 0) by omega), br_pos h2]
      cases hg : findP (bad O) ou with
      | some i => simp only [br_pos (show ((i : Nat) : Int) ≥ 0 by omega)]
      | none => simp only [br_neg (show ¬ ((-1 : Int) ≥ 0) by omega)]
  · rw [br_ne h, if_pos (by simpa using h)]

abbrev LT_differ_fit := {R : Type} → Int → Int → Int → Int → (List Int) → (List Int) → Int → Int → Int → Int → (List Int) → (List Int) → (Int → Option R) → Option R
abbrev GT_differ_fit_2 (R : Type) := Int → Int → Int → Int → Int → Int → (List Int) → (List Int) → Int → Int → Int → Int → (List Int) → (List Int) → (List (Int × (Int × (Int × (Int × (List Int × List Int)))))) → Option R
/-- tutor/differ.fit -/
def s_differ_fit_2 {R : Type} (g51_2 : GT_differ_fit_2 R) (K0 : Int → Option R) (x12 x13 o0 o0_1 o0_2 o0_3 : Int) (o0_4 o0_5 : List Int) (o1 o1_1 o1_2 o1_3 : Int) (o1_4 o1_5 : List Int) (o2 : List (Int × (Int × (Int × (Int × (List Int × List Int)))))) : Option R :=
  bi (decide (x13 < x12))
   (bi (decide (0 ≤ x13 ∧ x13 < ((o2.length : Nat) : Int)))
    (l_machine_Check ((o2.getD x13.toNat (0, (0, (0, (0, ([], [])))))).1) (((o2.getD x13.toNat (0, (0, (0, (0, ([], [])))))).2).1) ((((o2.getD x13.toNat (0, (0, (0, (0, ([], [])))))).2).2).1) (((((o2.getD x13.toNat (0, (0, (0, (0, ([], [])))))).2).2).2).1) ((((((o2.getD x13.toNat (0, (0, (0, (0, ([], [])))))).2).2).2).2).1) ((((((o2.getD x13.toNat (0, (0, (0, (0, ([], [])))))).2).2).2).2).2)
     (fun r1 r2 =>
      bi (r2 != 0)
       (K0 r2)
       (g51_2 x12 (IntKind.i64.wrap (x13 + 1)) o0 o0_1 o0_2 o0_3 o0_4 o0_5 o1 o1_1 o1_2 o1_3 o1_4 o1_5 o2)))
    none)
   (bi (o0 != o1)
    (K0 30)
    (bi (o0_1 != o1_1)
     (K0 1)
     (bi (o0_2 != o1_2)
      (K0 33)
      (K0 0))))

/-- tutor/differ.fit -/
def e_differ_fit {R : Type} (g51_2 : GT_differ_fit_2 R) (K0 : Int → Option R) (a a_1 a_2 a_3 : Int) (a_4 a_5 : List Int) (b b_1 b_2 b_3 : Int) (b_4 b_5 : List Int) : Option R :=
  g51_2 ([(a, (a_1, (a_2, (a_3, (a_4, a_5))))), (b, (b_1, (b_2, (b_3, (b_4, b_5)))))].length : Int) 0 a a_1 a_2 a_3 a_4 a_5 b b_1 b_2 b_3 b_4 b_5 [(a, (a_1, (a_2, (a_3, (a_4, a_5))))), (b, (b_1, (b_2, (b_3, (b_4, b_5)))))]

def run_differ_fit {R : Type} (K0 : Int → Option R) : Nat → Int → Int → Int → Int → Int → Int → (List Int) → (List Int) → Int → Int → Int → Int → (List Int) → (List Int) → (List (Int × (Int × (Int × (Int × (List Int × List Int)))))) → Option R
  | 0 => fun _ _ _ _ _ _ _ _ _ _ _ _ _ _ _ => none
  | n + 1 => s_differ_fit_2 (run_differ_fit K0 n) K0

/-- Whether they may be held against one another. -/
def fitS (k K O N : Int) (nx ou : List Int) (k' K' O' N' : Int) (nx' ou' : List Int) : Int :=
  if (checkS k K O N nx ou).2 ≠ 0 then (checkS k K O N nx ou).2 else if (checkS k' K' O' N' nx' ou').2 ≠ 0 then (checkS k' K' O' N' nx' ou').2 else
    if k ≠ k' then 30 else if K ≠ K' then 1 else if O ≠ O' then 33 else 0

def l_differ_fit {R : Type} (a : Int) (a_1 : Int) (a_2 : Int) (a_3 : Int) (a_4 : List Int) (a_5 : List Int) (b : Int) (b_1 : Int) (b_2 : Int) (b_3 : Int) (b_4 : List Int) (b_5 : List Int) (K0 : Int → Option R) : Option R :=
  bi (decide ((short a_4 ∧ short a_5) ∧ short b_4 ∧ short b_5)) (K0 (fitS a a_1 a_2 a_3 a_4 a_5 b b_1 b_2 b_3 b_4 b_5)) none

theorem two0 {α : Type} (x y d : α) : [x, y].getD (0 : Int).toNat d = x := rfl
theorem two1 {α : Type} (x y d : α) : [x, y].getD (0 + 1 : Int).toNat d = y := rfl

theorem ok_differ_fit {R : Type} (a : Int) (a_1 : Int) (a_2 : Int) (a_3 : Int) (a_4 : List Int) (a_5 : List Int) (b : Int) (b_1 : Int) (b_2 : Int) (b_3 : Int) (b_4 : List Int) (b_5 : List Int) (K0 : Int → Option R) {r : R} (h : l_differ_fit a a_1 a_2 a_3 a_4 a_5 b b_1 b_2 b_3 b_4 b_5 K0 = some r) : ∃ fuel, e_differ_fit (run_differ_fit K0 fuel) K0 a a_1 a_2 a_3 a_4 a_5 b b_1 b_2 b_3 b_4 b_5 = some r := by
  unfold l_differ_fit at h
  rcases bi_some h with ⟨hs, h⟩ | ⟨_, h⟩
  · obtain ⟨⟨h1, h2⟩, h3, h4⟩ := of_decide_eq_true hs
    refine ⟨3, ?_⟩
    rw [← h]
    unfold e_differ_fit fitS
    show s_differ_fit_2 (run_differ_fit K0 2) _ _ _ _ _ _ _ _ _ _ _ _ _ _ _ _ = _
    unfold s_differ_fit_2
    rw [br_pos (by simp), br_pos (by simp)]
    simp only [two0]
    rw [check_eq _ _ _ _ _ _ h1 h2]
    by_cases c1 : (checkS a a_1 a_2 a_3 a_4 a_5).2 = 0
    · rw [br_ne' c1, if_neg (by simpa using c1), wr _ (by omega) (by omega)]
      show s_differ_fit_2 (run_differ_fit K0 1) _ _ _ _ _ _ _ _ _ _ _ _ _ _ _ _ = _
      unfold s_differ_fit_2
      rw [br_pos (by simp), br_pos (by simp)]
      simp only [two1]
      rw [check_eq _ _ _ _ _ _ h3 h4]
      by_cases c2 : (checkS b b_1 b_2 b_3 b_4 b_5).2 = 0
      · rw [br_ne' c2, if_neg (by simpa using c2), wr _ (by omega) (by omega)]
        show s_differ_fit_2 (run_differ_fit K0 0) _ _ _ _ _ _ _ _ _ _ _ _ _ _ _ _ = _
        unfold s_differ_fit_2
        rw [br_neg (by simp)]
        simp only [br_if, bne_iff_ne, ne_eq]
        repeat' (refine ite_l (fun _ => ?_) (fun _ => ?_))
        all_goals
          refine congrArg K0 ?_
          repeat' (refine ite_r (fun _ => ?_) (fun _ => ?_))
          all_goals omega
      · rw [br_ne c2, if_pos (by simpa using c2)]
    · rw [br_ne c1, if_pos (by simpa using c1)]
  · cases h

theorem fit_eq {R : Type} {k K O N : Int} {nx ou : List Int} {k' K' O' N' : Int} {nx' ou' : List Int} (h1 : okL nx) (h2 : okL ou) (h3 : okL nx') (h4 : okL ou') (K0 : Int → Option R) :
    l_differ_fit k K O N nx ou k' K' O' N' nx' ou' K0 = K0 (fitS k K O N nx ou k' K' O' N' nx' ou') := by
  unfold l_differ_fit
  rw [br_pos ⟨⟨h1.1, h2.1⟩, h3.1, h4.1⟩]

abbrev LT_slices_Reverse_int_int := {R : Type} → (List Int) → ((List Int) → Option R) → Option R
abbrev GT_slices_Reverse_int_int_1 (R : Type) := Int → Int → (List Int) → Option R
/-- slices.Reverse[[]int,int] -/
def s_slices_Reverse_int_int_1 {R : Type} (g60_1 : GT_slices_Reverse_int_int_1 R) (K0 : (List Int) → Option R) (i j : Int) (o0 : List Int) : Option R :=
  bi (decide (i < j))
   (bi (decide (0 ≤ j ∧ j < ((o0.length : Nat) : Int)))
    (bi (decide (0 ≤ i ∧ i < ((o0.length : Nat) : Int)))
     (bi (decide (0 ≤ i ∧ i < ((o0.length : Nat) : Int)))
      (bi (decide (0 ≤ j ∧ j < (((o0.set i.toNat (o0.getD j.toNat 0)).length : Nat) : Int)))
       (g60_1 (IntKind.i64.wrap (i + 1)) (IntKind.i64.wrap (j - 1)) ((o0.set i.toNat (o0.getD j.toNat 0)).set j.toNat (o0.getD i.toNat 0)))
       none)
      none)
     none)
    none)
   (K0 o0)

/-- slices.Reverse[[]int,int] -/
def e_slices_Reverse_int_int {R : Type} (g60_1 : GT_slices_Reverse_int_int_1 R) (K0 : (List Int) → Option R) (o0 : List Int) : Option R :=
  g60_1 0 (IntKind.i64.wrap ((o0.length : Int) - 1)) o0

def run_slices_Reverse_int_int {R : Type} (K0 : (List Int) → Option R) : Nat → Int → Int → (List Int) → Option R
  | 0 => fun _ _ _ => none
  | n + 1 => s_slices_Reverse_int_int_1 (run_slices_Reverse_int_int K0 n) K0

def l_slices_Reverse_int_int {R : Type} (o0 : List Int) (K0 : (List Int) → Option R) : Option R := bi (decide (short o0)) (K0 o0.reverse) none

/-- Both ends turned, up to a place. -/
def revA (w : List Int) (a : Nat) : List Int := (List.range w.length).map fun t => if t < a ∨ w.length - a ≤ t then w.getD (w.length - 1 - t) 0 else w.getD t 0

theorem revA_len (w : List Int) (a : Nat) : (revA w a).length = w.length := by simp [revA]
theorem revA_get (w : List Int) (a t : Nat) (h : t < w.length) : (revA w a).getD t 0 = if t < a ∨ w.length - a ≤ t then w.getD (w.length - 1 - t) 0 else w.getD t 0 := by
  unfold revA
  rw [getD_of 0 (by simpa using h), List.getElem_map, List.getElem_range]
theorem revA_ext {w u : List Int} {a : Nat} (hl : u.length = w.length) (h : ∀ t, t < w.length → u.getD t 0 = if t < a ∨ w.length - a ≤ t then w.getD (w.length - 1 - t) 0 else w.getD t 0) : u = revA w a := by
  refine List.ext_getElem (by rw [hl, revA_len]) fun t h1 h2 => ?_
  have e1 := h t (by omega)
  rw [getD_of 0 h1] at e1
  rw [e1, ← getD_of 0 h2, revA_get w a t (by omega)]

theorem getD_set (l : List Int) (i t : Nat) (x : Int) : (l.set i x).getD t 0 = if i = t ∧ i < l.length then x else l.getD t 0 := by
  rw [List.getD_eq_getElem?_getD, List.getElem?_set, List.getD_eq_getElem?_getD]
  by_cases h : i = t
  · subst h
    by_cases h2 : i < l.length
    · simp [h2]
    · simp [h2]
  · simp [h]

theorem ok_slices_Reverse_int_int {R : Type} (o0 : List Int) (K0 : (List Int) → Option R) {r : R} (h : l_slices_Reverse_int_int o0 K0 = some r) : ∃ fuel, e_slices_Reverse_int_int (run_slices_Reverse_int_int K0 fuel) K0 o0 = some r := by
  unfold l_slices_Reverse_int_int at h
  rcases bi_some h with ⟨hs, h⟩ | ⟨_, h⟩
  · have hs : o0.length < 4611686018427387904 := of_decide_eq_true hs
    refine ⟨o0.length + 1, ?_⟩
    rw [← h]
    have key : ∀ (d a : Nat), a + d = o0.length → run_slices_Reverse_int_int K0 (d + 1) (a : Int) ((o0.length : Int) - 1 - (a : Int)) (revA o0 a) = K0 o0.reverse := by
      have fin : ∀ a : Nat, o0.length ≤ 2 * a + 1 → revA o0 a = o0.reverse := by
        intro a ha
        symm
        refine revA_ext (by simp) fun t ht => ?_
        have e : o0.reverse.getD t 0 = o0.getD (o0.length - 1 - t) 0 := by
          rw [getD_of 0 (by simpa using ht), List.getElem_reverse, getD_of 0 (by omega)]
        rw [e]
        split
        · rfl
        · have : o0.length - 1 - t = t := by omega
          rw [this]
      intro d
      induction d with
      | zero =>
        intro a ha
        show s_slices_Reverse_int_int_1 _ _ _ _ _ = _
        unfold s_slices_Reverse_int_int_1
        rw [br_neg (by omega), fin a (by omega)]
      | succ d ih =>
        intro a ha
        show s_slices_Reverse_int_int_1 _ _ _ _ _ = _
        unfold s_slices_Reverse_int_int_1
        by_cases c : (a : Int) < (o0.length : Int) - 1 - (a : Int)
        · have e1 : ((o0.length : Int) - 1 - (a : Int)).toNat = o0.length - 1 - a := by omega
          rw [br_pos c, revA_len, List.length_set, revA_len, br_pos (by omega), br_pos (by omega), br_pos (by omega), br_pos (by omega), wr _ (by omega) (by omega), wr _ (by omega) (by omega), Int.toNat_natCast, e1]
          have e2 : ((revA o0 a).set a ((revA o0 a).getD (o0.length - 1 - a) 0)).set (o0.length - 1 - a) ((revA o0 a).getD a 0) = revA o0 (a + 1) := by
            refine revA_ext (by simp [revA_len]) fun t ht => ?_
            rw [getD_set, getD_set, List.length_set, revA_len, revA_get _ _ _ ht, revA_get _ _ _ (show a < o0.length by omega), revA_get _ _ _ (show o0.length - 1 - a < o0.length by omega)]
            by_cases c1 : o0.length - 1 - a = t
            · rw [if_pos ⟨c1, by omega⟩, if_neg (by omega), if_pos (by omega)]
              congr 1
              omega
            · rw [if_neg (by omega)]
              by_cases c2 : a = t
              · rw [if_pos ⟨c2, by omega⟩, if_neg (by omega), if_pos (by omega), c2]
              · rw [if_neg (by omega)]
                by_cases c3 : t < a ∨ o0.length - a ≤ t
                · rw [if_pos c3, if_pos (by omega)]
                · rw [if_neg c3, if_neg (by omega)]
          rw [e2]
          have e3 : (o0.length : Int) - 1 - (a : Int) - 1 = (o0.length : Int) - 1 - ((a + 1 : Nat) : Int) := by omega
          rw [e3]
          exact ih (a + 1) (by omega)
        · rw [br_neg c, fin a (by omega)]
    have e0 : revA o0 0 = o0 := by
      symm
      refine revA_ext rfl fun t ht => ?_
      rw [if_neg (by omega)]
    have := key o0.length 0 (by omega)
    rw [e0] at this
    unfold e_slices_Reverse_int_int
    rw [wr _ (by omega) (by omega)]
    simpa using this
  · cases h

abbrev LT_differ_back := {R : Type} → Int → Int → Int → Int → (List ((Int × Int) × ((Int × Int) × Int))) → ((List ((Int × Int) × ((Int × Int) × Int))) → (List Int) → Option R) → Option R
abbrev GT_differ_back_2 (R : Type) := (List ((Int × Int) × ((Int × Int) × Int))) → Int → Int → Int → Int → (List Int) → Option R
/-- tutor/differ.back -/
def s_differ_back_2 {R : Type} (g58_2 : GT_differ_back_2 R) (K0 : (List ((Int × Int) × ((Int × Int) × Int))) → (List Int) → Option R) (o0 : List ((Int × Int) × ((Int × Int) × Int))) (o1 o1_1 o2 o2_1 : Int) (o3 : List Int) : Option R :=
  bi (!(eqS (.pr (.int .i64) (.int .i64)) (o2, o2_1) (o1, o1_1)))
   (bi (decide ((o3.length + [(mgetD (.pr (.int .i64) (.int .i64)) (.pr (.pr (.int .i64) (.int .i64)) (.int .i64)) o0 (o2, o2_1)).2].length) * 8 ≤ lim))
    (g58_2 o0 o1 o1_1 (((mgetD (.pr (.int .i64) (.int .i64)) (.pr (.pr (.int .i64) (.int .i64)) (.int .i64)) o0 (o2, o2_1)).1).1) (((mgetD (.pr (.int .i64) (.int .i64)) (.pr (.pr (.int .i64) (.int .i64)) (.int .i64)) o0 (o2, o2_1)).1).2) (o3 ++ [(mgetD (.pr (.int .i64) (.int .i64)) (.pr (.pr (.int .i64) (.int .i64)) (.int .i64)) o0 (o2, o2_1)).2]))
    none)
   (l_slices_Reverse_int_int o3
    (fun r1 =>
     K0 o0 r1))

/-- tutor/differ.back -/
def e_differ_back {R : Type} (g58_2 : GT_differ_back_2 R) (K0 : (List ((Int × Int) × ((Int × Int) × Int))) → (List Int) → Option R) (start start_1 p p_1 : Int) (o0 : List ((Int × Int) × ((Int × Int) × Int))) : Option R :=
  g58_2 o0 start start_1 p p_1 ([] : List Int)

def run_differ_back {R : Type} (K0 : (List ((Int × Int) × ((Int × Int) × Int))) → (List Int) → Option R) : Nat → (List ((Int × Int) × ((Int × Int) × Int))) → Int → Int → Int → Int → (List Int) → Option R
  | 0 => fun _ _ _ _ _ _ => none
  | n + 1 => s_differ_back_2 (run_differ_back K0 n) K0

def l_differ_back {R : Type} (start : Int) (start_1 : Int) (p : Int) (p_1 : Int) (o0 : List ((Int × Int) × ((Int × Int) × Int))) (K0 : (List ((Int × Int) × ((Int × Int) × Int))) → (List Int) → Option R) : Option R :=
  bi (decide (o0.length ≤ 1000000000)) (match backF o0 (start, start_1) o0.length (p, p_1) with
    | some w => K0 o0 w
    | none => none) none

theorem back_run {R : Type} (o : Came) (s : Int × Int) (K0 : Came → (List Int) → Option R) : ∀ (n : Nat) (q : Int × Int) (w acc : List Int), backF o s n q = some w → acc.length + n ≤ 1000000000 →
    Reach (fun m => run_differ_back K0 m o s.1 s.2 q.1 q.2 acc) (K0 o (w ++ acc.reverse))
  | 0, q, w, acc, h, _ => by cases h
  | n + 1, q, w, acc, h, hl => by
    unfold backF at h
    by_cases c : q = s
    · rw [if_pos c] at h
      cases h
      refine .now fun m => ?_
      show s_differ_back_2 _ _ _ _ _ _ _ _ = _
      unfold s_differ_back_2 l_slices_Reverse_int_int
      rw [show eqS (.pr (.int .i64) (.int .i64)) (q.1, q.2) (s.1, s.2) = decide (q = s) from eqP q s, decide_eq_true c, br_pos (show short acc by unfold short; omega)]
      rfl
    · rw [if_neg c] at h
      cases hf : mfind (.pr (.int .i64) (.int .i64)) (.pr (.pr (.int .i64) (.int .i64)) (.int .i64)) q o with
      | none => rw [hf] at h; cases h
      | some v =>
        rw [hf] at h
        obtain ⟨p, x⟩ := v
        dsimp only at h
        cases hb : backF o s n p with
        | none => rw [hb] at h; cases h
        | some u =>
          rw [hb] at h
          cases h
          have ih := back_run o s K0 n p u (acc ++ [x]) hb (by simp; omega)
          rw [show u ++ [x] ++ acc.reverse = u ++ (acc ++ [x]).reverse by simp]
          refine .step (fun m => ?_) ih
          show s_differ_back_2 _ _ _ _ _ _ _ _ = _
          unfold s_differ_back_2
          have e : mgetD (.pr (.int .i64) (.int .i64)) (.pr (.pr (.int .i64) (.int .i64)) (.int .i64)) o (q.1, q.2) = (p, x) := by
            unfold mgetD
            rw [show mfind (.pr (.int .i64) (.int .i64)) (.pr (.pr (.int .i64) (.int .i64)) (.int .i64)) (q.1, q.2) o = some (p, x) from hf]
            rfl
          rw [show eqS (.pr (.int .i64) (.int .i64)) (q.1, q.2) (s.1, s.2) = decide (q = s) from eqP q s, decide_eq_false c, e]
          rw [show (!false) = true from rfl, br_tt, br_pos (by
            show (acc.length + 1) * 8 ≤ 140737488355328
            omega)]

theorem ok_differ_back {R : Type} (start : Int) (start_1 : Int) (p : Int) (p_1 : Int) (o0 : List ((Int × Int) × ((Int × Int) × Int))) (K0 : (List ((Int × Int) × ((Int × Int) × Int))) → (List Int) → Option R) {r : R} (h : l_differ_back start start_1 p p_1 o0 K0 = some r) : ∃ fuel, e_differ_back (run_differ_back K0 fuel) K0 start start_1 p p_1 o0 = some r := by
  unfold l_differ_back at h
  rcases bi_some h with ⟨hs, h⟩ | ⟨_, h⟩
  · have hs := of_decide_eq_true hs
    cases hb : backF o0 (start, start_1) o0.length (p, p_1) with
    | none => rw [hb] at h; cases h
    | some w =>
      rw [hb] at h
      dsimp only at h
      rw [← h]
      obtain ⟨n, hn⟩ := (back_run o0 (start, start_1) K0 _ _ w [] hb (by simpa using hs)).get
      exact ⟨n, by simpa [e_differ_back] using hn⟩
  · cases h

theorem back_eq {R : Type} {s : Int × Int} {o : Came} {L : List PW} (W : Ways s o L) {e : PW} (he : e ∈ L) (hl : L.length ≤ 1000000000) (K0 : Came → List Int → Option R) :
    l_differ_back s.1 s.2 e.1.1 e.1.2 o K0 = K0 o e.2 := by
  have hk : o.length = L.length := by simpa using congrArg List.length W.keys
  unfold l_differ_back
  rw [br_pos (by omega), hk, show backF o (s.1, s.2) L.length (e.1.1, e.1.2) = some e.2 from W.back e he]

abbrev LT_differ_search := {R : Type} → Int → Int → Int → Int → (List Int) → (List Int) → Int → Int → Int → Int → (List Int) → (List Int) → Int → Int → (Bool → (List Int) → Option R) → Option R
abbrev GT_differ_search_9 (R : Type) := Int → Int → Int → Int → Int → (List Int) → (List Int) → Int → Int → Int → Int → (List Int) → (List Int) → Int → Int → (List ((Int × Int) × ((Int × Int) × Int))) → (List (Int × Int)) → Int → Int → (List Int) → Option R
abbrev GT_differ_search_13 (R : Type) := Int → Int → Int → Int → Int → Int → Int → (List Int) → (List Int) → Int → Int → Int → Int → (List Int) → (List Int) → Int → Int → (List ((Int × Int) × ((Int × Int) × Int))) → (List (Int × Int)) → Int → Int → (List Int) → Int → Int → Option R
/-- tutor/differ.search -/
def s_differ_search_9 {R : Type} (g52_9 : GT_differ_search_9 R) (g52_13 : GT_differ_search_13 R) (K0 : Bool → (List Int) → Option R) (i o0 o0_1 o0_2 o0_3 : Int) (o0_4 o0_5 : List Int) (o1 o1_1 o1_2 o1_3 : Int) (o1_4 o1_5 : List Int) (o2 o2_1 : Int) (o3 : List ((Int × Int) × ((Int × Int) × Int))) (o4 : List (Int × Int)) (o5 o5_1 : Int) (o6 : List Int) : Option R :=
  bi (i == (o4.length : Int))
   (K0 false ([] : List Int))
   (bi (decide (0 ≤ i ∧ i < ((o4.length : Nat) : Int)))
    (g52_13 i o0_1 0 o0 o0_1 o0_2 o0_3 o0_4 o0_5 o1 o1_1 o1_2 o1_3 o1_4 o1_5 o2 o2_1 o3 o4 o5 o5_1 o6 ((o4.getD i.toNat (0, 0)).1) ((o4.getD i.toNat (0, 0)).2))
    none)

/-- tutor/differ.search -/
def s_differ_search_13 {R : Type} (g52_9 : GT_differ_search_9 R) (g52_13 : GT_differ_search_13 R) (K0 : Bool → (List Int) → Option R) (i x55 x56 o0 o0_1 o0_2 o0_3 : Int) (o0_4 o0_5 : List Int) (o1 o1_1 o1_2 o1_3 : Int) (o1_4 o1_5 : List Int) (o2 o2_1 : Int) (o3 : List ((Int × Int) × ((Int × Int) × Int))) (o4 : List (Int × Int)) (o5 o5_1 : Int) (o6 : List Int) (o7 o7_1 : Int) : Option R :=
  bi (decide (x56 < x55))
   (bi (decide (0 ≤ (IntKind.i64.wrap ((IntKind.i64.wrap (o7 * o0_1)) + x56)) ∧ (IntKind.i64.wrap ((IntKind.i64.wrap (o7 * o0_1)) + x56)) < ((o0_4.length : Nat) : Int)))
    (bi (decide (0 ≤ (IntKind.i64.wrap ((IntKind.i64.wrap (o7_1 * o1_1)) + x56)) ∧ (IntKind.i64.wrap ((IntKind.i64.wrap (o7_1 * o1_1)) + x56)) < ((o1_4.length : Nat) : Int)))
     (bi (o0 == 2)
      (bi (decide (0 ≤ (IntKind.i64.wrap ((IntKind.i64.wrap (o7 * o0_1)) + x56)) ∧ (IntKind.i64.wrap ((IntKind.i64.wrap (o7 * o0_1)) + x56)) < ((o0_5.length : Nat) : Int)))
       (bi (decide (0 ≤ (IntKind.i64.wrap ((IntKind.i64.wrap (o7_1 * o1_1)) + x56)) ∧ (IntKind.i64.wrap ((IntKind.i64.wrap (o7_1 * o1_1)) + x56)) < ((o1_5.length : Nat) : Int)))
        (bi ((o0_5.getD ((IntKind.i64.wrap ((IntKind.i64.wrap (o7 * o0_1)) + x56)).toNat) 0) != (o1_5.getD ((IntKind.i64.wrap ((IntKind.i64.wrap (o7_1 * o1_1)) + x56)).toNat) 0))
         (l_differ_back o2 o2_1 o7 o7_1 o3
          (fun r1 r2 =>
           bi (decide ((r2.length + [x56].length) * 8 ≤ lim))
            (K0 true (r2 ++ [x56]))
            none))
         (bi (mhas (.pr (.int .i64) (.int .i64)) (.pr (.pr (.int .i64) (.int .i64)) (.int .i64)) o3 (o0_4.getD ((IntKind.i64.wrap ((IntKind.i64.wrap (o7 * o0_1)) + x56)).toNat) 0, o1_4.getD ((IntKind.i64.wrap ((IntKind.i64.wrap (o7_1 * o1_1)) + x56)).toNat) 0))
          (g52_13 i x55 (IntKind.i64.wrap (x56 + 1)) o0 o0_1 o0_2 o0_3 o0_4 o0_5 o1 o1_1 o1_2 o1_3 o1_4 o1_5 o2 o2_1 o3 o4 o5 o5_1 o6 o7 o7_1)
          (bi (decide ((o4.length + [(o0_4.getD ((IntKind.i64.wrap ((IntKind.i64.wrap (o7 * o0_1)) + x56)).toNat) 0, o1_4.getD ((IntKind.i64.wrap ((IntKind.i64.wrap (o7_1 * o1_1)) + x56)).toNat) 0)].length) * 16 ≤ lim))
           (bi (o0 == 1)
            (bi (decide (0 ≤ (o0_4.getD ((IntKind.i64.wrap ((IntKind.i64.wrap (o7 * o0_1)) + x56)).toNat) 0) ∧ (o0_4.getD ((IntKind.i64.wrap ((IntKind.i64.wrap (o7 * o0_1)) + x56)).toNat) 0) < ((o0_5.length : Nat) : Int)))
             (bi (decide (0 ≤ (o1_4.getD ((IntKind.i64.wrap ((IntKind.i64.wrap (o7_1 * o1_1)) + x56)).toNat) 0) ∧ (o1_4.getD ((IntKind.i64.wrap ((IntKind.i64.wrap (o7_1 * o1_1)) + x56)).toNat) 0) < ((o1_5.length : Nat) : Int)))
              (bi ((o0_5.getD ((o0_4.getD ((IntKind.i64.wrap ((IntKind.i64.wrap (o7 * o0_1)) + x56)).toNat) 0).toNat) 0) != (o1_5.getD ((o1_4.getD ((IntKind.i64.wrap ((IntKind.i64.wrap (o7_1 * o1_1)) + x56)).toNat) 0).toNat) 0))
               (l_differ_back o2 o2_1 (o0_4.getD ((IntKind.i64.wrap ((IntKind.i64.wrap (o7 * o0_1)) + x56)).toNat) 0) (o1_4.getD ((IntKind.i64.wrap ((IntKind.i64.wrap (o7_1 * o1_1)) + x56)).toNat) 0) (mput (.pr (.int .i64) (.int .i64)) (.pr (.pr (.int .i64) (.int .i64)) (.int .i64)) (o0_4.getD ((IntKind.i64.wrap ((IntKind.i64.wrap (o7 * o0_1)) + x56)).toNat) 0, o1_4.getD ((IntKind.i64.wrap ((IntKind.i64.wrap (o7_1 * o1_1)) + x56)).toNat) 0) ((o7, o7_1), x56) o3)
                (fun r3 r4 =>
                 bi (decide ((r4.length + o6.length) * 8 ≤ lim))
                  (K0 true (r4 ++ o6))
                  none))
               (g52_13 i x55 (IntKind.i64.wrap (x56 + 1)) o0 o0_1 o0_2 o0_3 o0_4 o0_5 o1 o1_1 o1_2 o1_3 o1_4 o1_5 o2 o2_1 (mput (.pr (.int .i64) (.int .i64)) (.pr (.pr (.int .i64) (.int .i64)) (.int .i64)) (o0_4.getD ((IntKind.i64.wrap ((IntKind.i64.wrap (o7 * o0_1)) + x56)).toNat) 0, o1_4.getD ((IntKind.i64.wrap ((IntKind.i64.wrap (o7_1 * o1_1)) + x56)).toNat) 0) ((o7, o7_1), x56) o3) (o4 ++ [(o0_4.getD ((IntKind.i64.wrap ((IntKind.i64.wrap (o7 * o0_1)) + x56)).toNat) 0, o1_4.getD ((IntKind.i64.wrap ((IntKind.i64.wrap (o7_1 * o1_1)) + x56)).toNat) 0)]) o5 o5_1 o6 o7 o7_1))
              none)
             none)
            (g52_13 i x55 (IntKind.i64.wrap (x56 + 1)) o0 o0_1 o0_2 o0_3 o0_4 o0_5 o1 o1_1 o1_2 o1_3 o1_4 o1_5 o2 o2_1 (mput (.pr (.int .i64) (.int .i64)) (.pr (.pr (.int .i64) (.int .i64)) (.int .i64)) (o0_4.getD ((IntKind.i64.wrap ((IntKind.i64.wrap (o7 * o0_1)) + x56)).toNat) 0, o1_4.getD ((IntKind.i64.wrap ((IntKind.i64.wrap (o7_1 * o1_1)) + x56)).toNat) 0) ((o7, o7_1), x56) o3) (o4 ++ [(o0_4.getD ((IntKind.i64.wrap ((IntKind.i64.wrap (o7 * o0_1)) + x56)).toNat) 0, o1_4.getD ((IntKind.i64.wrap ((IntKind.i64.wrap (o7_1 * o1_1)) + x56)).toNat) 0)]) o5 o5_1 o6 o7 o7_1))
           none)))
        none)
       none)
      (bi (mhas (.pr (.int .i64) (.int .i64)) (.pr (.pr (.int .i64) (.int .i64)) (.int .i64)) o3 (o0_4.getD ((IntKind.i64.wrap ((IntKind.i64.wrap (o7 * o0_1)) + x56)).toNat) 0, o1_4.getD ((IntKind.i64.wrap ((IntKind.i64.wrap (o7_1 * o1_1)) + x56)).toNat) 0))
       (g52_13 i x55 (IntKind.i64.wrap (x56 + 1)) o0 o0_1 o0_2 o0_3 o0_4 o0_5 o1 o1_1 o1_2 o1_3 o1_4 o1_5 o2 o2_1 o3 o4 o5 o5_1 o6 o7 o7_1)
       (bi (decide ((o4.length + [(o0_4.getD ((IntKind.i64.wrap ((IntKind.i64.wrap (o7 * o0_1)) + x56)).toNat) 0, o1_4.getD ((IntKind.i64.wrap ((IntKind.i64.wrap (o7_1 * o1_1)) + x56)).toNat) 0)].length) * 16 ≤ lim))
        (bi (o0 == 1)
         (bi (decide (0 ≤ (o0_4.getD ((IntKind.i64.wrap ((IntKind.i64.wrap (o7 * o0_1)) + x56)).toNat) 0) ∧ (o0_4.getD ((IntKind.i64.wrap ((IntKind.i64.wrap (o7 * o0_1)) + x56)).toNat) 0) < ((o0_5.length : Nat) : Int)))
          (bi (decide (0 ≤ (o1_4.getD ((IntKind.i64.wrap ((IntKind.i64.wrap (o7_1 * o1_1)) + x56)).toNat) 0) ∧ (o1_4.getD ((IntKind.i64.wrap ((IntKind.i64.wrap (o7_1 * o1_1)) + x56)).toNat) 0) < ((o1_5.length : Nat) : Int)))
           (bi ((o0_5.getD ((o0_4.getD ((IntKind.i64.wrap ((IntKind.i64.wrap (o7 * o0_1)) + x56)).toNat) 0).toNat) 0) != (o1_5.getD ((o1_4.getD ((IntKind.i64.wrap ((IntKind.i64.wrap (o7_1 * o1_1)) + x56)).toNat) 0).toNat) 0))
            (l_differ_back o2 o2_1 (o0_4.getD ((IntKind.i64.wrap ((IntKind.i64.wrap (o7 * o0_1)) + x56)).toNat) 0) (o1_4.getD ((IntKind.i64.wrap ((IntKind.i64.wrap (o7_1 * o1_1)) + x56)).toNat) 0) (mput (.pr (.int .i64) (.int .i64)) (.pr (.pr (.int .i64) (.int .i64)) (.int .i64)) (o0_4.getD ((IntKind.i64.wrap ((IntKind.i64.wrap (o7 * o0_1)) + x56)).toNat) 0, o1_4.getD ((IntKind.i64.wrap ((IntKind.i64.wrap (o7_1 * o1_1)) + x56)).toNat) 0) ((o7, o7_1), x56) o3)
             (fun r5 r6 =>
              bi (decide ((r6.length + o6.length) * 8 ≤ lim))
               (K0 true (r6 ++ o6))
               none))
            (g52_13 i x55 (IntKind.i64.wrap (x56 + 1)) o0 o0_1 o0_2 o0_3 o0_4 o0_5 o1 o1_1 o1_2 o1_3 o1_4 o1_5 o2 o2_1 (mput (.pr (.int .i64) (.int .i64)) (.pr (.pr (.int .i64) (.int .i64)) (.int .i64)) (o0_4.getD ((IntKind.i64.wrap ((IntKind.i64.wrap (o7 * o0_1)) + x56)).toNat) 0, o1_4.getD ((IntKind.i64.wrap ((IntKind.i64.wrap (o7_1 * o1_1)) + x56)).toNat) 0) ((o7, o7_1), x56) o3) (o4 ++ [(o0_4.getD ((IntKind.i64.wrap ((IntKind.i64.wrap (o7 * o0_1)) + x56)).toNat) 0, o1_4.getD ((IntKind.i64.wrap ((IntKind.i64.wrap (o7_1 * o1_1)) + x56)).toNat) 0)]) o5 o5_1 o6 o7 o7_1))
           none)
          none)
         (g52_13 i x55 (IntKind.i64.wrap (x56 + 1)) o0 o0_1 o0_2 o0_3 o0_4 o0_5 o1 o1_1 o1_2 o1_3 o1_4 o1_5 o2 o2_1 (mput (.pr (.int .i64) (.int .i64)) (.pr (.pr (.int .i64) (.int .i64)) (.int .i64)) (o0_4.getD ((IntKind.i64.wrap ((IntKind.i64.wrap (o7 * o0_1)) + x56)).toNat) 0, o1_4.getD ((IntKind.i64.wrap ((IntKind.i64.wrap (o7_1 * o1_1)) + x56)).toNat) 0) ((o7, o7_1), x56) o3) (o4 ++ [(o0_4.getD ((IntKind.i64.wrap ((IntKind.i64.wrap (o7 * o0_1)) + x56)).toNat) 0, o1_4.getD ((IntKind.i64.wrap ((IntKind.i64.wrap (o7_1 * o1_1)) + x56)).toNat) 0)]) o5 o5_1 o6 o7 o7_1))
        none)))
     none)
    none)
   (g52_9 (IntKind.i64.wrap (i + 1)) o0 o0_1 o0_2 o0_3 o0_4 o0_5 o1 o1_1 o1_2 o1_3 o1_4 o1_5 o2 o2_1 o3 o4 o5 o5_1 o6)

/-- tutor/differ.search -/
def e_differ_search {R : Type} (g52_9 : GT_differ_search_9 R) (g52_13 : GT_differ_search_13 R) (K0 : Bool → (List Int) → Option R) (a a_1 a_2 a_3 : Int) (a_4 a_5 : List Int) (b b_1 b_2 b_3 : Int) (b_4 b_5 : List Int) (start start_1 : Int) : Option R :=
  bi (a == 1)
   (bi (decide (0 ≤ start ∧ start < ((a_5.length : Nat) : Int)))
    (bi (decide (0 ≤ start_1 ∧ start_1 < ((b_5.length : Nat) : Int)))
     (bi ((a_5.getD start.toNat 0) != (b_5.getD start_1.toNat 0))
      (K0 true ([] : List Int))
      (g52_9 0 a a_1 a_2 a_3 a_4 a_5 b b_1 b_2 b_3 b_4 b_5 start start_1 (mput (.pr (.int .i64) (.int .i64)) (.pr (.pr (.int .i64) (.int .i64)) (.int .i64)) (start, start_1) ((0, 0), 0) ([] : List ((Int × Int) × ((Int × Int) × Int)))) [(start, start_1)] 0 0 ([] : List Int)))
     none)
    none)
   (g52_9 0 a a_1 a_2 a_3 a_4 a_5 b b_1 b_2 b_3 b_4 b_5 start start_1 (mput (.pr (.int .i64) (.int .i64)) (.pr (.pr (.int .i64) (.int .i64)) (.int .i64)) (start, start_1) ((0, 0), 0) ([] : List ((Int × Int) × ((Int × Int) × Int)))) [(start, start_1)] 0 0 ([] : List Int))

def run_differ_search {R : Type} (K0 : Bool → (List Int) → Option R) : Nat → (Int → Int → Int → Int → Int → (List Int) → (List Int) → Int → Int → Int → Int → (List Int) → (List Int) → Int → Int → (List ((Int × Int) × ((Int × Int) × Int))) → (List (Int × Int)) → Int → Int → (List Int) → Option R) × (Int → Int → Int → Int → Int → Int → Int → (List Int) → (List Int) → Int → Int → Int → Int → (List Int) → (List Int) → Int → Int → (List ((Int × Int) × ((Int × Int) × Int))) → (List (Int × Int)) → Int → Int → (List Int) → Int → Int → Option R)
  | 0 => (fun _ _ _ _ _ _ _ _ _ _ _ _ _ _ _ _ _ _ _ _ => none, fun _ _ _ _ _ _ _ _ _ _ _ _ _ _ _ _ _ _ _ _ _ _ _ _ => none)
  | n + 1 => (s_differ_search_9 (run_differ_search K0 n).1 (run_differ_search K0 n).2 K0, s_differ_search_13 (run_differ_search K0 n).1 (run_differ_search K0 n).2 K0)

def l_differ_search {R : Type} (a : Int) (a_1 : Int) (a_2 : Int) (a_3 : Int) (a_4 : List Int) (a_5 : List Int) (b : Int) (b_1 : Int) (b_2 : Int) (b_3 : Int) (b_4 : List Int) (b_5 : List Int) (start : Int) (start_1 : Int) (K0 : Bool → (List Int) → Option R) : Option R :=
  bi (decide ((checkR a a_1 a_2 a_3 a_4 a_5).2 = 0 ∧ (checkR b b_1 b_2 b_3 b_4 b_5).2 = 0 ∧ a = b ∧ a_1 = b_1 ∧ (0 ≤ start ∧ start < a_3) ∧ (0 ≤ start_1 ∧ start_1 < b_3)))
    (K0 (searchS ⟨a, a_1, a_3, b_3, a_4, a_5, b_4, b_5⟩ (start, start_1)).1 (searchS ⟨a, a_1, a_3, b_3, a_4, a_5, b_4, b_5⟩ (start, start_1)).2) none

theorem rows_get (L : List PW) (i : Nat) : (L.map (·.1)).getD i (0, 0) = (L.getD i pw0).1 := by
  simp only [List.getD_eq_getElem?_getD, List.getElem?_map]
  cases L[i]? <;> rfl

theorem search_run {R : Type} {D : Duo} {O O' : Int} (A : Fine D.k D.K O D.N D.nx D.ou) (B : Fine D.k D.K O' D.M D.nx' D.ou') (s : Int × Int) (K0 : Bool → List Int → Option R) :
    ∀ (n i x : Nat) (L : List PW) (o : Came) (r : Bool × List Int), bfs D n i x L = some r → Inv D s L → Ways s o L → i < L.length → x ≤ D.K.toNat →
    Reach (fun m => (run_differ_search K0 m).2 i D.K x D.k D.K O D.N D.nx D.ou D.k D.K O' D.M D.nx' D.ou' s.1 s.2 o (L.map (·.1)) 0 0 [] (L.getD i pw0).1.1 (L.getD i pw0).1.2) (K0 r.1 r.2)
  | 0, _, _, _, _, _, h, _, _, _, _ => by cases h
  | n + 1, i, x, L, o, r, h, I, W, hi, hx => by
    have F : D.Fine := ⟨⟨O, A⟩, ⟨O', B⟩⟩
    have hK := A.fK
    have hNK := mulK ⟨A.fN, A.fK⟩
    have hMK := mulK ⟨B.fN, B.fK⟩
    have hNM := mul_most A.fN B.fN
    have hmost := I.most
    have hm : L.getD i pw0 ∈ L := getD_mem hi
    have hp := I.inn _ hm
    unfold bfs at h
    by_cases c : (x : Int) < D.K
    · rw [if_pos c] at h
      have hx' : 0 ≤ (x : Int) ∧ (x : Int) < D.K := ⟨by omega, c⟩
      have i1 := idx_in hp.1 hx'
      have i2 := idx_in hp.2 hx'
      have f1 := A.fnx
      have f2 := B.fnx
      have hq := nxt_inn F hp hx'
      have hlen := I.len i hi
      have hrow : (L.map (·.1)).length = L.length := List.length_map _
      have key : ∀ m, (run_differ_search K0 (m + 1)).2 i D.K x D.k D.K O D.N D.nx D.ou D.k D.K O' D.M D.nx' D.ou' s.1 s.2 o (L.map (·.1)) 0 0 [] (L.getD i pw0).1.1 (L.getD i pw0).1.2 =
          if D.sy (L.getD i pw0).1 x || D.st (D.nxt (L.getD i pw0).1 x) then K0 true ((L.getD i pw0).2 ++ [(x : Int)])
          else if known L (D.nxt (L.getD i pw0).1 x) then (run_differ_search K0 m).2 i D.K ((x + 1 : Nat) : Int) D.k D.K O D.N D.nx D.ou D.k D.K O' D.M D.nx' D.ou' s.1 s.2 o (L.map (·.1)) 0 0 [] (L.getD i pw0).1.1 (L.getD i pw0).1.2
          else (run_differ_search K0 m).2 i D.K ((x + 1 : Nat) : Int) D.k D.K O D.N D.nx D.ou D.k D.K O' D.M D.nx' D.ou' s.1 s.2 (o ++ [(D.nxt (L.getD i pw0).1 x, ((L.getD i pw0).1, (x : Int)))]) (L.map (·.1) ++ [D.nxt (L.getD i pw0).1 x]) 0 0 [] (L.getD i pw0).1.1 (L.getD i pw0).1.2 := by
        intro m
        show s_differ_search_13 _ _ _ _ _ _ _ _ _ _ _ _ _ _ _ _ _ _ _ _ _ _ _ _ _ _ _ = _
        unfold s_differ_search_13
        try simp only [both_same, twice_eq, thrice_eq]
        generalize hP : L.getD i pw0 = P at *
        obtain ⟨⟨p1, p2⟩, w⟩ := P
        dsimp only at hp i1 i2 hq hlen ⊢
        rw [br_pos c, wr (p1 * D.K) (by omega) (by omega), wr (p2 * D.K) (by omega) (by omega), wr (p1 * D.K + x) (by omega) (by omega), wr (p2 * D.K + x) (by omega) (by omega), wr ((x : Int) + 1) (by omega) (by omega)]
        rw [br_pos (by omega), br_pos (by omega)]
        have hmh := mhas_known W (D.nxt (p1, p2) x)
        have hst : D.k = 2 → ∀ q, D.st q = false := fun h q => by unfold Duo.st; rw [h]; rfl
        have hsy : D.k = 1 → ∀ q y, D.sy q y = false := fun h q y => by unfold Duo.sy; rw [h]; rfl
        have hQ : D.nxt (p1, p2) x = (D.nx.getD (p1 * D.K + x).toNat 0, D.nx'.getD (p2 * D.K + x).toNat 0) := rfl
        rw [← hQ]
        rw [show D.nx.getD (p1 * D.K + x).toNat 0 = (D.nxt (p1, p2) x).1 from rfl, show D.nx'.getD (p2 * D.K + x).toNat 0 = (D.nxt (p1, p2) x).2 from rfl]
        generalize hq' : D.nxt (p1, p2) x = q at *
        rw [show mhas (.pr (.int .i64) (.int .i64)) (.pr (.pr (.int .i64) (.int .i64)) (.int .i64)) o q = known L q from hmh]
        have hpl : ((L.map (·.1)).length + [q].length) * 16 ≤ lim := by
          rw [hrow]
          show (L.length + 1) * 16 ≤ 140737488355328
          omega
        have hsame : known L q = true → D.st q = false := fun hk => by
          obtain ⟨e, he, rfl⟩ := List.mem_map.1 (known_iff.1 hk)
          exact I.st e he
        have hnew : known L q = false → mput (.pr (.int .i64) (.int .i64)) (.pr (.pr (.int .i64) (.int .i64)) (.int .i64)) q ((p1, p2), (x : Int)) o = o ++ [(q, ((p1, p2), (x : Int)))] := fun hk => mput_new (by
          rw [W.keys]
          intro hm
          rw [known_iff.2 hm] at hk
          cases hk)
        rcases A.fk with hk | hk
        · rw [br_eq' (by omega), hsy hk, Bool.false_or]
          have g1 := A.fou1 hk
          have g2 := B.fou1 hk
          cases hkn : known L q with
          | true =>
            rw [br_tt, hsame hkn, if_neg (by decide), if_pos rfl]
            rfl
          | false =>
            rw [br_ff, br_pos hpl, br_eq hk, br_pos (by have := hq.1; omega), br_pos (by have := hq.2; omega), hnew hkn]
            have hs : D.st q = (D.ou.getD q.1.toNat 0 != D.ou'.getD q.2.toNat 0) := by unfold Duo.st; rw [hk]; rfl
            rw [← hs]
            cases hst' : D.st q with
            | true =>
              rw [br_tt, if_pos rfl]
              have Wp := W.push (e := ((p1, p2), w)) hm hkn x
              rw [show l_differ_back s.1 s.2 q.1 q.2 (o ++ [(q, ((p1, p2), (x : Int)))]) _ = _ from back_eq Wp (e := (q, w ++ [(x : Int)])) (by simp) (by simp; omega) _]
              dsimp only
              rw [br_pos (by
                rw [List.length_append]
                show (w.length + 1 + 0) * 8 ≤ 140737488355328
                omega), List.append_nil]
            | false =>
              rw [br_ff, if_neg (by decide), if_neg (by decide)]
              rfl
        · have g1 := A.fou2 hk
          have g2 := B.fou2 hk
          rw [br_eq hk, br_pos (by omega), br_pos (by omega), hst hk, Bool.or_false]
          have hs : D.sy (p1, p2) x = (D.ou.getD (p1 * D.K + x).toNat 0 != D.ou'.getD (p2 * D.K + x).toNat 0) := by unfold Duo.sy; rw [hk]; rfl
          rw [← hs]
          cases hsy' : D.sy (p1, p2) x with
          | true =>
            rw [br_tt, if_pos rfl, show l_differ_back s.1 s.2 p1 p2 o _ = _ from back_eq W (e := ((p1, p2), w)) hm (by omega) _]
            dsimp only
            rw [br_pos (by
              show (w.length + 1) * 8 ≤ 140737488355328
              omega)]
          | false =>
            rw [br_ff, if_neg (by decide)]
            cases hkn : known L q with
            | true => rw [br_tt, if_pos rfl]; rfl
            | false =>
              rw [br_ff, br_pos hpl, br_eq' (by omega), hnew hkn, if_neg (by decide)]
              rfl
      cases h1 : D.sy (L.getD i pw0).1 x || D.st (D.nxt (L.getD i pw0).1 x) with
      | true =>
        rw [h1, if_pos rfl] at h
        cases h
        exact .now fun m => by rw [key, h1, if_pos rfl]
      | false =>
        rw [h1, if_neg (by decide)] at h
        rw [Bool.or_eq_false_iff] at h1
        cases h2 : known L (D.nxt (L.getD i pw0).1 x) with
        | true =>
          rw [h2, if_pos rfl] at h
          exact .step (fun m => by rw [key, h1.1, h1.2, h2, Bool.or_false, if_neg (by decide), if_pos rfl]) (search_run A B s K0 n i (x + 1) L o r h I W hi (by omega))
        | false =>
          rw [h2, if_neg (by decide)] at h
          refine .step (fun m => by rw [key, h1.1, h1.2, h2, Bool.or_false, if_neg (by decide), if_neg (by decide)]) ?_
          have ih := search_run A B s K0 n i (x + 1) _ _ r h (I.push F hi hx' h1.2 h2) (W.push hm h2 x) (by simp; omega) (by omega)
          rw [List.map_append, getD_snoc, if_pos hi] at ih
          exact ih
    · rw [if_neg c] at h
      have hrow : (L.map (·.1)).length = L.length := List.length_map _
      have key : ∀ m, (run_differ_search K0 (m + 1)).2 i D.K x D.k D.K O D.N D.nx D.ou D.k D.K O' D.M D.nx' D.ou' s.1 s.2 o (L.map (·.1)) 0 0 [] (L.getD i pw0).1.1 (L.getD i pw0).1.2 =
          (run_differ_search K0 m).1 ((i + 1 : Nat) : Int) D.k D.K O D.N D.nx D.ou D.k D.K O' D.M D.nx' D.ou' s.1 s.2 o (L.map (·.1)) 0 0 [] := by
        intro m
        show s_differ_search_13 _ _ _ _ _ _ _ _ _ _ _ _ _ _ _ _ _ _ _ _ _ _ _ _ _ _ _ = _
        unfold s_differ_search_13
        rw [br_neg c, wr _ (by omega) (by omega)]
        rfl
      refine .step key ?_
      by_cases h3 : i + 1 < L.length
      · rw [if_pos h3] at h
        refine .step (fun m => ?_) (search_run A B s K0 n (i + 1) 0 L o r h I W h3 (by omega))
        show s_differ_search_9 (run_differ_search K0 m).1 (run_differ_search K0 m).2 K0 _ _ _ _ _ _ _ _ _ _ _ _ _ _ _ _ _ _ _ _ = _
        unfold s_differ_search_9
        rw [hrow, br_eq' (by omega), br_pos (by omega), Int.toNat_natCast, rows_get]
        rfl
      · rw [if_neg h3] at h
        cases h
        refine .now fun m => ?_
        show s_differ_search_9 (run_differ_search K0 m).1 (run_differ_search K0 m).2 K0 _ _ _ _ _ _ _ _ _ _ _ _ _ _ _ _ _ _ _ _ = _
        unfold s_differ_search_9
        rw [hrow, br_eq (by omega)]

theorem ok_differ_search {R : Type} (a : Int) (a_1 : Int) (a_2 : Int) (a_3 : Int) (a_4 : List Int) (a_5 : List Int) (b : Int) (b_1 : Int) (b_2 : Int) (b_3 : Int) (b_4 : List Int) (b_5 : List Int) (start : Int) (start_1 : Int) (K0 : Bool → (List Int) → Option R) {r : R} (h : l_differ_search a a_1 a_2 a_3 a_4 a_5 b b_1 b_2 b_3 b_4 b_5 start start_1 K0 = some r) : ∃ fuel, e_differ_search (run_differ_search K0 fuel).1 (run_differ_search K0 fuel).2 K0 a a_1 a_2 a_3 a_4 a_5 b b_1 b_2 b_3 b_4 b_5 start start_1 = some r := by
  unfold l_differ_search at h
  rcases bi_some h with ⟨hs, h'⟩ | ⟨_, h'⟩
  · obtain ⟨h1, h2, rfl, rfl, h3, h4⟩ := of_decide_eq_true hs
    have A := checkR_fine.1 h1
    have B := checkR_fine.1 h2
    rw [← h']
    generalize hD : (⟨a, a_1, a_3, b_3, a_4, a_5, b_4, b_5⟩ : Duo) = D
    have F : D.Fine := by subst hD; exact ⟨⟨_, A⟩, ⟨_, B⟩⟩
    have hin : D.inn (start, start_1) := by subst hD; exact ⟨h3, h4⟩
    have go : D.st (start, start_1) = false → Reach (fun m => (run_differ_search K0 m).1 0 a a_1 a_2 a_3 a_4 a_5 a a_1 b_2 b_3 b_4 b_5 start start_1 (mput (.pr (.int .i64) (.int .i64)) (.pr (.pr (.int .i64) (.int .i64)) (.int .i64)) (start, start_1) ((0, 0), 0) ([] : List ((Int × Int) × ((Int × Int) × Int)))) [(start, start_1)] 0 0 ([] : List Int)) (K0 (searchS D (start, start_1)).1 (searchS D (start, start_1)).2) := fun hst => by
      have := search_run (D := D) (O := a_2) (O' := b_2) (by subst hD; exact A) (by subst hD; exact B) (start, start_1) K0 _ 0 0 _ _ _ (searchS_run F hin hst) (Inv.start hin hst) (Ways.start (start, start_1) ((0, 0), 0)) (by simp) (by omega)
      refine .step (fun m => ?_) this
      subst hD
      rw [show (run_differ_search K0 (m + 1)).1 = s_differ_search_9 (run_differ_search K0 m).1 (run_differ_search K0 m).2 K0 from rfl]
      unfold s_differ_search_9
      rw [br_eq' (by simp), br_pos (by simp)]
      rfl
    unfold e_differ_search
    rcases A.fk with hk | hk
    · have g1 := A.fou1 hk
      have g2 := B.fou1 hk
      have hs : D.st (start, start_1) = (a_5.getD start.toNat 0 != b_5.getD start_1.toNat 0) := by subst hD; unfold Duo.st; rw [hk]; rfl
      cases hst : D.st (start, start_1) with
      | true =>
        refine ⟨0, ?_⟩
        rw [br_eq hk, br_pos (by omega), br_pos (by omega), ← hs, hst, br_tt]
        unfold searchS
        rw [if_pos hst]
        try rfl
      | false =>
        obtain ⟨n, hn⟩ := (go hst).get
        refine ⟨n, ?_⟩
        rw [br_eq hk, br_pos (by omega), br_pos (by omega), ← hs, hst, br_ff]
        exact hn
    · have hst : D.st (start, start_1) = false := by subst hD; unfold Duo.st; rw [hk]; rfl
      obtain ⟨n, hn⟩ := (go hst).get
      refine ⟨n, ?_⟩
      rw [br_eq' (by omega)]
      exact hn
  · cases h'

theorem search_eq {R : Type} {D : Duo} {O O' : Int} (A : Fine D.k D.K O D.N D.nx D.ou) (B : Fine D.k D.K O' D.M D.nx' D.ou') {s : Int × Int} (hs : D.inn s) (K0 : Bool → List Int → Option R) :
    l_differ_search D.k D.K O D.N D.nx D.ou D.k D.K O' D.M D.nx' D.ou' s.1 s.2 K0 = K0 (searchS D s).1 (searchS D s).2 := by
  unfold l_differ_search
  rw [br_pos ⟨checkR_fine.2 A, checkR_fine.2 B, rfl, rfl, hs⟩]

abbrev LT_differ_Separate := {R : Type} → Int → Int → Int → Int → (List Int) → (List Int) → Int → Int → Int → Int → (List Int) → (List Int) → (Bool → Int → (List Int) → Option R) → Option R
/-- tutor/differ.Separate -/
def l_differ_Separate {R : Type} (a a_1 a_2 a_3 : Int) (a_4 a_5 : List Int) (b b_1 b_2 b_3 : Int) (b_4 b_5 : List Int) (K0 : Bool → Int → (List Int) → Option R) : Option R :=
  l_differ_fit a a_1 a_2 a_3 a_4 a_5 b b_1 b_2 b_3 b_4 b_5
   (fun r1 =>
    bi (r1 != 0)
     (K0 false r1 ([] : List Int))
     (l_differ_search a a_1 a_2 a_3 a_4 a_5 b b_1 b_2 b_3 b_4 b_5 0 0
      (fun r2 r3 =>
       K0 r2 0 r3)))

/-- The document's answer, for two machines. -/
def sepS (k K O N : Int) (nx ou : List Int) (k' K' O' N' : Int) (nx' ou' : List Int) : Bool × Int × List Int :=
  if fitS k K O N nx ou k' K' O' N' nx' ou' ≠ 0 then (false, fitS k K O N nx ou k' K' O' N' nx' ou', []) else
    ((searchS ⟨k, K, N, N', nx, ou, nx', ou'⟩ (0, 0)).1, 0, (searchS ⟨k, K, N, N', nx, ou, nx', ou'⟩ (0, 0)).2)

theorem fitS_zero {k K O N : Int} {nx ou : List Int} {k' K' O' N' : Int} {nx' ou' : List Int} (h1 : okL nx) (h2 : okL ou) (h3 : okL nx') (h4 : okL ou') :
    fitS k K O N nx ou k' K' O' N' nx' ou' = 0 ↔ Fine k K O N nx ou ∧ Fine k' K' O' N' nx' ou' ∧ k = k' ∧ K = K' ∧ O = O' := by
  unfold fitS
  rw [checkS_eq h1 h2, checkS_eq h3 h4, ← checkR_fine, ← checkR_fine]
  by_cases c1 : (checkR k K O N nx ou).2 = 0
  · rw [if_neg (by simpa using c1)]
    by_cases c2 : (checkR k' K' O' N' nx' ou').2 = 0
    · rw [if_neg (by simpa using c2)]
      by_cases c3 : k = k'
      · rw [if_neg (by simpa using c3)]
        by_cases c4 : K = K'
        · rw [if_neg (by simpa using c4)]
          by_cases c5 : O = O'
          · rw [if_neg (by simpa using c5)]
            exact ⟨fun _ => ⟨c1, c2, c3, c4, c5⟩, fun _ => rfl⟩
          · rw [if_pos c5]
            exact ⟨fun h => by simp at h, fun h => absurd h.2.2.2.2 c5⟩
        · rw [if_pos c4]
          exact ⟨fun h => by simp at h, fun h => absurd h.2.2.2.1 c4⟩
      · rw [if_pos c3]
        exact ⟨fun h => by simp at h, fun h => absurd h.2.2.1 c3⟩
    · rw [if_pos c2]
      exact ⟨fun h => absurd h c2, fun h => absurd h.2.1 c2⟩
  · rw [if_pos c1]
    exact ⟨fun h => absurd h c1, fun h => absurd h.1 c1⟩

theorem sep_eq {R : Type} {k K O N : Int} {nx ou : List Int} {k' K' O' N' : Int} {nx' ou' : List Int} (h1 : okL nx) (h2 : okL ou) (h3 : okL nx') (h4 : okL ou') (K0 : Bool → Int → List Int → Option R) :
    l_differ_Separate k K O N nx ou k' K' O' N' nx' ou' K0 = K0 (sepS k K O N nx ou k' K' O' N' nx' ou').1 (sepS k K O N nx ou k' K' O' N' nx' ou').2.1 (sepS k K O N nx ou k' K' O' N' nx' ou').2.2 := by
  unfold l_differ_Separate sepS
  rw [fit_eq h1 h2 h3 h4]
  try dsimp only
  by_cases hc : fitS k K O N nx ou k' K' O' N' nx' ou' = 0
  · rw [br_ne' hc, if_neg (by simpa using hc)]
    obtain ⟨A, B, rfl, rfl, rfl⟩ := (fitS_zero h1 h2 h3 h4).1 hc
    have := A.fN
    have := B.fN
    exact search_eq (D := ⟨k, K, N, N', nx, ou, nx', ou'⟩) (s := (0, 0)) A B ⟨by dsimp only; omega, by dsimp only; omega⟩ _
  · rw [br_ne hc, if_pos (by simpa using hc)]

theorem sepS_short {k K O N : Int} {nx ou : List Int} {k' K' O' N' : Int} {nx' ou' : List Int} (h1 : okL nx) (h2 : okL ou) (h3 : okL nx') (h4 : okL ou') : short (sepS k K O N nx ou k' K' O' N' nx' ou').2.2 := by
  unfold sepS
  by_cases hc : fitS k K O N nx ou k' K' O' N' nx' ou' = 0
  · rw [if_neg (by simpa using hc)]
    obtain ⟨A, B, rfl, rfl, rfl⟩ := (fitS_zero h1 h2 h3 h4).1 hc
    have := A.fN
    have := B.fN
    exact searchS_short (D := ⟨k, K, N, N', nx, ou, nx', ou'⟩) (s := (0, 0)) ⟨⟨_, A⟩, ⟨_, B⟩⟩ ⟨by dsimp only; omega, by dsimp only; omega⟩
  · rw [if_pos hc]
    exact (by decide : short ([] : List Int))
theorem sepS_len {k K O N : Int} {nx ou : List Int} {k' K' O' N' : Int} {nx' ou' : List Int} (h1 : okL nx) (h2 : okL ou) (h3 : okL nx') (h4 : okL ou') : (sepS k K O N nx ou k' K' O' N' nx' ou').2.2.length ≤ 1048576 := by
  unfold sepS
  by_cases hc : fitS k K O N nx ou k' K' O' N' nx' ou' = 0
  · rw [if_neg (by simpa using hc)]
    obtain ⟨A, B, rfl, rfl, rfl⟩ := (fitS_zero h1 h2 h3 h4).1 hc
    have a1 := A.fN
    have b1 := B.fN
    have := searchS_len (D := ⟨k, K, N, N', nx, ou, nx', ou'⟩) (s := (0, 0)) ⟨⟨_, A⟩, ⟨_, B⟩⟩ ⟨by dsimp only; omega, by dsimp only; omega⟩
    have m := mul_most a1 b1
    dsimp only at this ⊢
    omega
  · rw [if_pos hc]
    exact Nat.zero_le _

abbrev LT_walk_fit := {R : Type} → Int → Int → Int → (Int → Option R) → Option R
/-- tutor/walk.fit -/
def l_walk_fit {R : Type} (k low high : Int) (K0 : Int → Option R) : Option R :=
  bi (decide (k < 1))
   (K0 1)
   (bi (decide (k > 64))
    (K0 1)
    (bi (decide (low < 0))
     (K0 1)
     (bi (decide (high < low))
      (K0 1)
      (bi (decide (high > 4096))
       (K0 2)
       (K0 0)))))

theorem fitW_eq {R : Type} (k low high : Int) (K0 : Int → Option R) : l_walk_fit k low high K0 = K0 (fitW k low high) := by
  unfold l_walk_fit fitW
  simp only [br_if, decide_eq_true_eq]
  repeat' (refine ite_l (fun _ => ?_) (fun _ => ?_))
  all_goals
    refine congrArg K0 ?_
    repeat' (refine ite_r (fun _ => ?_) (fun _ => ?_))
    all_goals omega

abbrev LT_walk_asked := {R : Type} → Int → Int → Int → Int → (Int → Option R) → Option R
/-- tutor/walk.asked -/
def l_walk_asked {R : Type} (k count low high : Int) (K0 : Int → Option R) : Option R :=
  l_walk_fit k low high
   (fun r1 =>
    bi (r1 != 0)
     (K0 r1)
     (bi (decide (count < 0))
      (K0 1)
      (bi (decide (count > 65536))
       (K0 3)
       (K0 0))))

theorem asked_eq {R : Type} (k count low high : Int) (K0 : Int → Option R) : l_walk_asked k count low high K0 = K0 (askS k count low high) := by
  unfold l_walk_asked askS
  rw [fitW_eq]
  try dsimp only
  by_cases h : fitW k low high = 0
  · rw [br_ne' h, if_neg (by simpa using h)]
    simp only [br_if, decide_eq_true_eq]
    by_cases h1 : count < 0
    · rw [if_pos h1, if_pos h1]
    · rw [if_neg h1, if_neg h1]
      by_cases h2 : count > 65536
      · rw [if_pos h2, if_pos h2]
      · rw [if_neg h2, if_neg h2]
  · rw [br_ne h, if_pos (by simpa using h)]

abbrev LT_walk_drawn := {R : Type} → Int → Int → Int → Int → Int → (Int → Int → Int → Int → Int → Option R) → Option R
/-- tutor/walk.drawn -/
def l_walk_drawn {R : Type} (seed k count low high : Int) (K0 : Int → Int → Int → Int → Int → Option R) : Option R :=
  K0 seed count k low high

abbrev LT_walk_Walk_Word := {R : Type} → Int → Int → Int → Int → (Int → Int → (List Int) → Option R) → Option R
abbrev GT_walk_Walk_Word_8 (R : Type) := Int → Int → Int → Int → (List Int) → Option R
/-- (*tutor/walk.Walk).Word -/
def s_walk_Walk_Word_8 {R : Type} (g14_8 : GT_walk_Walk_Word_8 R) (K0 : Int → Int → (List Int) → Option R) (k x32 x33 o0 : Int) (o1 : List Int) : Option R :=
  bi (decide (x33 < x32))
   (l_walk_Walk_Int k o0
    (fun r4 r5 =>
     bi (decide (0 ≤ x33 ∧ x33 < ((o1.length : Nat) : Int)))
      (g14_8 k x32 (IntKind.i64.wrap (x33 + 1)) r5 (o1.set x33.toNat r4))
      none))
   (K0 0 o0 o1)

/-- (*tutor/walk.Walk).Word -/
def e_walk_Walk_Word {R : Type} (g14_8 : GT_walk_Walk_Word_8 R) (K0 : Int → Int → (List Int) → Option R) (k low high o0 : Int) : Option R :=
  l_walk_fit k low high
   (fun r1 =>
    bi (r1 != 0)
     (K0 r1 o0 ([] : List Int))
     (l_walk_Walk_Int (IntKind.i64.wrap ((IntKind.i64.wrap (high - low)) + 1)) o0
      (fun r2 r3 =>
       bi (decide (0 ≤ (IntKind.i64.wrap (low + r2)) ∧ (IntKind.i64.wrap (low + r2)) ≤ (IntKind.i64.wrap (low + r2)) ∧ (IntKind.i64.wrap (low + r2)) ≤ 1073741824))
        (g14_8 k ((List.replicate (IntKind.i64.wrap (low + r2)).toNat (0 : Int)).length : Int) 0 r3 (List.replicate (IntKind.i64.wrap (low + r2)).toNat (0 : Int)))
        none)))

def run_walk_Walk_Word {R : Type} (K0 : Int → Int → (List Int) → Option R) : Nat → Int → Int → Int → Int → (List Int) → Option R
  | 0 => fun _ _ _ _ _ => none
  | n + 1 => s_walk_Walk_Word_8 (run_walk_Walk_Word K0 n) K0

def l_walk_Walk_Word {R : Type} (k low high x : Int) (K0 : Int → Int → List Int → Option R) : Option R :=
  bi (decide (inI k ∧ inI low ∧ inI high)) (K0 (drawnS k low high x).1 (drawnS k low high x).2.2 (drawnS k low high x).2.1) none

theorem ok_walk_Walk_Word {R : Type} (k low high x : Int) (K0 : Int → Int → List Int → Option R) {r : R} (h : l_walk_Walk_Word k low high x K0 = some r) : ∃ fuel, e_walk_Walk_Word (run_walk_Walk_Word K0 fuel) K0 k low high x = some r := by
  unfold l_walk_Walk_Word at h
  rcases bi_some h with ⟨hs, h⟩ | ⟨_, h⟩
  · obtain ⟨hk, hlo, hhi⟩ := of_decide_eq_true hs
    refine ⟨lenS low high x + 1, ?_⟩
    rw [← h]
    unfold e_walk_Walk_Word drawnS
    rw [fitW_eq]
    by_cases hf : fitW k low high = 0
    · obtain ⟨hk1, hf1⟩ := fitW_zero hf
      rw [br_ne' hf, if_neg (by simpa using hf), wr (high - low) (by omega) (by omega), wr (high - low + 1) (by omega) (by omega), walkInt_eq ⟨by omega, by omega⟩]
      obtain ⟨e1, e2⟩ := lenS_in (x := x) hf1
      try dsimp only
      rw [wr (low + (intS (high - low + 1) x).1) (by omega) (by omega), e1, br_pos (by omega), Int.toNat_natCast, List.length_replicate]
      -- place by place
      have key : ∀ (m i : Nat) (l : List Int), i + m = lenS low high x → l = (drawsS k i (intS (high - low + 1) x).2).1 ++ List.replicate m 0 →
          run_walk_Walk_Word K0 (m + 1) k (lenS low high x : Int) (i : Int) (drawsS k i (intS (high - low + 1) x).2).2 l = K0 0 (wordD k low high x).2 (wordD k low high x).1 := by
        intro m
        induction m with
        | zero =>
          intro i l hi hl
          show s_walk_Walk_Word_8 _ _ _ _ _ _ _ = _
          unfold s_walk_Walk_Word_8
          rw [br_neg (by omega), hl]
          unfold wordD
          rw [← hi]
          simp
        | succ m ih =>
          intro i l hi hl
          show s_walk_Walk_Word_8 (run_walk_Walk_Word K0 (m + 1)) _ _ _ _ _ _ = _
          unfold s_walk_Walk_Word_8
          have hlen : l.length = i + (m + 1) := by rw [hl]; simp [drawsS_len]
          rw [br_pos (by omega), walkInt_eq hk]
          try dsimp only
          rw [br_pos (by omega), wr _ (by omega) (by omega), Int.toNat_natCast]
          refine ih (i + 1) _ (by omega) ?_
          rw [hl, List.set_append_right _ _ (by rw [drawsS_len]; omega), drawsS_len]
          simp [drawsS, List.replicate_succ]
      exact key (lenS low high x) 0 _ (by omega) (by simp [drawsS])
    · rw [br_ne hf, if_pos (by simpa using hf)]
  · cases h
theorem walkWord_eq {R : Type} {k low high x : Int} (h : inI k ∧ inI low ∧ inI high) (K0 : Int → Int → List Int → Option R) :
    l_walk_Walk_Word k low high x K0 = K0 (drawnS k low high x).1 (drawnS k low high x).2.2 (drawnS k low high x).2.1 := by
  unfold l_walk_Walk_Word
  rw [br_pos h]

abbrev LT_word_alphabet := {R : Type} → Int → (Bool → Option R) → Option R
/-- tutor/word.alphabet -/
def l_word_alphabet {R : Type} (k : Int) (K0 : Bool → Option R) : Option R :=
  bi (decide (k ≥ 1))
   (K0 (decide (k ≤ 64)))
   (K0 false)

theorem alpha_eq {R : Type} (k : Int) (K0 : Bool → Option R) : l_word_alphabet k K0 = K0 (decide (1 ≤ k ∧ k ≤ 64)) := by
  unfold l_word_alphabet
  by_cases h : k ≥ 1
  · rw [br_pos h]
    congr 1
    rw [decide_eq_decide]
    omega
  · rw [br_neg h, decide_eq_false (by omega)]

abbrev LT_word_Check := {R : Type} → (List Int) → Int → (Int → Int → Option R) → Option R
abbrev GT_word_Check_6 (R : Type) := (List Int) → Int → Int → Int → Option R
/-- tutor/word.Check -/
def s_word_Check_6 {R : Type} (g59_6 : GT_word_Check_6 R) (K0 : Int → Int → Option R) (w : List Int) (k x16 x17 : Int) : Option R :=
  bi (decide (x17 < x16))
   (bi (decide (0 ≤ x17 ∧ x17 < ((w.length : Nat) : Int)))
    (bi (decide ((w.getD x17.toNat 0) < 0))
     (K0 x17 10)
     (bi (decide (0 ≤ x17 ∧ x17 < ((w.length : Nat) : Int)))
      (bi (decide ((w.getD x17.toNat 0) ≥ k))
       (K0 x17 10)
       (g59_6 w k x16 (IntKind.i64.wrap (x17 + 1))))
      none))
    none)
   (K0 0 0)

/-- tutor/word.Check -/
def e_word_Check {R : Type} (g59_6 : GT_word_Check_6 R) (K0 : Int → Int → Option R) (w : List Int) (k : Int) : Option R :=
  l_word_alphabet k
   (fun r1 =>
    bi (!r1)
     (K0 0 1)
     (bi (decide ((w.length : Int) > 4096))
      (K0 0 2)
      (g59_6 w k (w.length : Int) 0)))

def run_word_Check {R : Type} (K0 : Int → Int → Option R) : Nat → (List Int) → Int → Int → Int → Option R
  | 0 => fun _ _ _ _ => none
  | n + 1 => s_word_Check_6 (run_word_Check K0 n) K0

def l_word_Check {R : Type} (w : List Int) (k : Int) (K0 : Int → Int → Option R) : Option R := K0 (wordS k w).1 (wordS k w).2

theorem ok_word_Check {R : Type} (w : List Int) (k : Int) (K0 : Int → Int → Option R) {r : R} (h : l_word_Check w k K0 = some r) : ∃ fuel, e_word_Check (run_word_Check K0 fuel) K0 w k = some r := by
  refine ⟨w.length + 1, ?_⟩
  rw [← h]
  unfold l_word_Check e_word_Check l_word_alphabet wordS
  by_cases h1 : 1 ≤ k
  · rw [br_pos (by omega)]
    by_cases h2 : k ≤ 64
    · rw [decide_eq_true h2, if_neg (by omega)]
      show bi false _ _ = _
      rw [br_ff]
      by_cases h3 : w.length > 4096
      · rw [br_pos (by omega), if_pos h3]
      · rw [br_neg (by omega), if_neg h3]
        have key := scan_all (F := fun m i => run_word_Check K0 m w k (w.length : Int) (i : Int)) (outside k) (l := w) (A := fun i => K0 i 10) (B := K0 0 0)
          (fun m => by
            show s_word_Check_6 _ _ _ _ _ _ = _
            unfold s_word_Check_6
            rw [br_neg (by omega)])
          (fun m i hi => by
            show s_word_Check_6 _ _ _ _ _ _ = _
            unfold s_word_Check_6
            rw [br_pos (by omega), br_pos (by omega), br_pos (p := 0 ≤ (i : Int) ∧ (i : Int) < ((w.length : Nat) : Int)) (by omega), Int.toNat_natCast, getD_of 0 hi, wr _ (by omega) (by omega)]
            unfold outside
            cases decide (w[i] < 0) <;> cases decide (w[i] ≥ k) <;> rfl)
        refine key.trans ?_
        cases findP (outside k) w <;> rfl
    · rw [decide_eq_false h2, if_pos (by omega)]
      rfl
  · rw [br_neg (by omega), if_pos (by omega)]
    rfl

abbrev LT_machine_From := {R : Type} → Int → Int → Int → Int → (List Int) → (List Int) → Int → (List Int) → (Int → Int → (List Int) → Option R) → Option R
abbrev GT_machine_From_10 (R : Type) := Int → (List Int) → Int → Int → Int → Int → Int → Int → (List Int) → (List Int) → (List Int) → Option R
/-- tutor/machine.From -/
def s_machine_From_10 {R : Type} (g53_10 : GT_machine_From_10 R) (K0 : Int → Int → (List Int) → Option R) (s : Int) (x42 : List Int) (x43 x44 o0 o0_1 o0_2 o0_3 : Int) (o0_4 o0_5 o1 : List Int) : Option R :=
  bi (decide (x44 < x43))
   (bi (decide (0 ≤ x44 ∧ x44 < ((x42.length : Nat) : Int)))
    (bi (o0 == 2)
     (bi (decide (0 ≤ (IntKind.i64.wrap ((IntKind.i64.wrap (s * o0_1)) + (x42.getD x44.toNat 0))) ∧ (IntKind.i64.wrap ((IntKind.i64.wrap (s * o0_1)) + (x42.getD x44.toNat 0))) < ((o0_5.length : Nat) : Int)))
      (bi (decide ((o1.length + [o0_5.getD ((IntKind.i64.wrap ((IntKind.i64.wrap (s * o0_1)) + (x42.getD x44.toNat 0))).toNat) 0].length) * 8 ≤ lim))
       (bi (decide (0 ≤ (IntKind.i64.wrap ((IntKind.i64.wrap (s * o0_1)) + (x42.getD x44.toNat 0))) ∧ (IntKind.i64.wrap ((IntKind.i64.wrap (s * o0_1)) + (x42.getD x44.toNat 0))) < ((o0_4.length : Nat) : Int)))
        (g53_10 (o0_4.getD ((IntKind.i64.wrap ((IntKind.i64.wrap (s * o0_1)) + (x42.getD x44.toNat 0))).toNat) 0) x42 x43 (IntKind.i64.wrap (x44 + 1)) o0 o0_1 o0_2 o0_3 o0_4 o0_5 (o1 ++ [o0_5.getD ((IntKind.i64.wrap ((IntKind.i64.wrap (s * o0_1)) + (x42.getD x44.toNat 0))).toNat) 0]))
        none)
       none)
      none)
     (bi (decide (0 ≤ (IntKind.i64.wrap ((IntKind.i64.wrap (s * o0_1)) + (x42.getD x44.toNat 0))) ∧ (IntKind.i64.wrap ((IntKind.i64.wrap (s * o0_1)) + (x42.getD x44.toNat 0))) < ((o0_4.length : Nat) : Int)))
      (g53_10 (o0_4.getD ((IntKind.i64.wrap ((IntKind.i64.wrap (s * o0_1)) + (x42.getD x44.toNat 0))).toNat) 0) x42 x43 (IntKind.i64.wrap (x44 + 1)) o0 o0_1 o0_2 o0_3 o0_4 o0_5 o1)
      none))
    none)
   (bi (o0 == 1)
    (bi (decide (0 ≤ s ∧ s < ((o0_5.length : Nat) : Int)))
     (K0 s 0 [o0_5.getD s.toNat 0])
     none)
    (K0 s 0 o1))

/-- tutor/machine.From -/
def e_machine_From {R : Type} (g53_10 : GT_machine_From_10 R) (K0 : Int → Int → (List Int) → Option R) (m m_1 m_2 m_3 : Int) (m_4 m_5 : List Int) (s : Int) (w : List Int) : Option R :=
  l_machine_Check m m_1 m_2 m_3 m_4 m_5
   (fun r1 r2 =>
    bi (r2 != 0)
     (K0 0 r2 ([] : List Int))
     (bi (decide (s < 0))
      (K0 0 32 ([] : List Int))
      (bi (decide (s ≥ m_3))
       (K0 0 32 ([] : List Int))
       (l_word_Check w m_1
        (fun r3 r4 =>
         bi (r4 != 0)
          (K0 0 r4 ([] : List Int))
          (g53_10 s w (w.length : Int) 0 m m_1 m_2 m_3 m_4 m_5 ([] : List Int)))))))

def run_machine_From {R : Type} (K0 : Int → Int → (List Int) → Option R) : Nat → Int → (List Int) → Int → Int → Int → Int → Int → Int → (List Int) → (List Int) → (List Int) → Option R
  | 0 => fun _ _ _ _ _ _ _ _ _ _ _ => none
  | n + 1 => s_machine_From_10 (run_machine_From K0 n) K0

def l_machine_From {R : Type} (k K O N : Int) (nx ou : List Int) (s : Int) (w : List Int) (K0 : Int → Int → List Int → Option R) : Option R :=
  bi (decide (okL nx ∧ okL ou)) (K0 (fromS k K O N nx ou s w).1 (fromS k K O N nx ou s w).2.1 (fromS k K O N nx ou s w).2.2) none

theorem ok_machine_From {R : Type} (k K O N : Int) (nx ou : List Int) (s : Int) (w : List Int) (K0 : Int → Int → List Int → Option R) {r : R} (h : l_machine_From k K O N nx ou s w K0 = some r) :
    ∃ fuel, e_machine_From (run_machine_From K0 fuel) K0 k K O N nx ou s w = some r := by
  unfold l_machine_From at h
  rcases bi_some h with ⟨hs, h⟩ | ⟨_, h⟩
  · obtain ⟨h1, h2⟩ := of_decide_eq_true hs
    refine ⟨w.length + 1, ?_⟩
    rw [← h]
    unfold e_machine_From fromS
    rw [check_eq _ _ _ _ _ _ h1.1 h2.1, checkS_eq h1 h2]
    by_cases hc : (checkR k K O N nx ou).2 = 0
    · have F := checkR_fine.1 hc
      rw [br_ne' hc, if_neg (by simpa using hc)]
      by_cases hs1 : s < 0
      · rw [br_pos hs1, if_pos (.inl hs1)]
      rw [br_neg hs1]
      by_cases hs2 : s ≥ N
      · rw [br_pos hs2, if_pos (.inr hs2)]
      rw [br_neg hs2, if_neg (by omega)]
      unfold l_word_Check
      dsimp only
      by_cases hw : (wordS K w).2 = 0
      · rw [br_ne' hw, if_neg (by simpa using hw)]
        obtain ⟨_, hwl, hwx⟩ := wordS_zero.1 hw
        have hK := F.fK
        have hN := F.fN
        have hNK := mulK ⟨hN, hK⟩
        have hnx := F.fnx
        refine (fold_all (F := fun m i (t : Int × List Int) => run_machine_From K0 m t.1 w (w.length : Int) (i : Int) k K O N nx ou t.2) (f := goS k K nx ou) (l := w)
          (B := fun t => K0 t.1 0 (if k = 1 then [ou.getD t.1.toNat 0] else t.2)) (fun i t => (0 ≤ t.1 ∧ t.1 < N) ∧ t.2.length ≤ i) ?_ ?_ (s, []) ⟨by omega, by simp⟩).trans ?_
        · intro m t ht
          show s_machine_From_10 _ _ _ _ _ _ _ _ _ _ _ _ _ = _
          unfold s_machine_From_10
          rw [br_neg (by omega)]
          by_cases hk : k = 1
          · have := F.fou1 hk
            rw [br_eq hk, br_pos (by omega), if_pos hk]
          · rw [br_eq' hk, if_neg hk]
        · intro m i t hi ht
          have hx := hwx _ (List.getElem_mem hi)
          have hin := idx_in ht.1 hx
          have hg : (if k = 2 then t.2 ++ [ou.getD (t.1 * K + w[i]).toNat 0] else t.2).length ≤ i + 1 := by
            split
            · simp; omega
            · omega
          refine ⟨⟨goS_in F ht.1 hx, hg⟩, ?_⟩
          show s_machine_From_10 (run_machine_From K0 m) _ _ _ _ _ _ _ _ _ _ _ _ = run_machine_From K0 m (nx.getD (t.1 * K + w[i]).toNat 0) w (w.length : Int) ((i + 1 : Nat) : Int) k K O N nx ou (if k = 2 then t.2 ++ [ou.getD (t.1 * K + w[i]).toNat 0] else t.2)
          unfold s_machine_From_10
          rw [br_pos (by omega), br_pos (by omega), Int.toNat_natCast, getD_of 0 hi, wr (t.1 * K) (by omega) (by omega), wr (t.1 * K + w[i]) (by omega) (by omega), wr ((i : Int) + 1) (by omega) (by omega)]
          by_cases hk : k = 2
          · have := F.fou2 hk
            rw [br_eq hk, br_pos (by omega), br_pos (by simp [lim]; omega), br_pos (by omega), if_pos hk]
            rfl
          · rw [br_eq' hk, br_pos (by omega), if_neg hk]
            rfl
        · unfold endS
          rfl
      · rw [br_ne hw, if_pos (by simpa using hw)]
    · rw [br_ne hc, if_pos (by simpa using hc)]
  · cases h

theorem from_eq {R : Type} {k K O N : Int} {nx ou : List Int} {s : Int} {w : List Int} (h1 : okL nx) (h2 : okL ou) (K0 : Int → Int → List Int → Option R) :
    l_machine_From k K O N nx ou s w K0 = K0 (fromS k K O N nx ou s w).1 (fromS k K O N nx ou s w).2.1 (fromS k K O N nx ou s w).2.2 := by
  unfold l_machine_From
  rw [br_pos ⟨h1, h2⟩]

abbrev LT_machine_Run := {R : Type} → Int → Int → Int → Int → (List Int) → (List Int) → (List Int) → (Int → (List Int) → Option R) → Option R
/-- tutor/machine.Run -/
def l_machine_Run {R : Type} (m m_1 m_2 m_3 : Int) (m_4 m_5 w : List Int) (K0 : Int → (List Int) → Option R) : Option R :=
  l_machine_From m m_1 m_2 m_3 m_4 m_5 0 w
   (fun r1 r2 r3 =>
    K0 r2 r3)

abbrev LT_slices_Equal_int_int := {R : Type} → (List Int) → (List Int) → (Bool → Option R) → Option R
abbrev GT_slices_Equal_int_int_4 (R : Type) := (List Int) → (List Int) → Int → Int → Option R
/-- slices.Equal[[]int,int] -/
def s_slices_Equal_int_int_4 {R : Type} (g44_4 : GT_slices_Equal_int_int_4 R) (K0 : Bool → Option R) (s1 s2 : List Int) (x12 x13 : Int) : Option R :=
  bi (decide (x13 < x12))
   (bi (decide (0 ≤ x13 ∧ x13 < ((s1.length : Nat) : Int)))
    (bi (decide (0 ≤ x13 ∧ x13 < ((s2.length : Nat) : Int)))
     (bi ((s1.getD x13.toNat 0) != (s2.getD x13.toNat 0))
      (K0 false)
      (g44_4 s1 s2 x12 (IntKind.i64.wrap (x13 + 1))))
     none)
    none)
   (K0 true)

/-- slices.Equal[[]int,int] -/
def e_slices_Equal_int_int {R : Type} (g44_4 : GT_slices_Equal_int_int_4 R) (K0 : Bool → Option R) (s1 s2 : List Int) : Option R :=
  bi ((s1.length : Int) != (s2.length : Int))
   (K0 false)
   (g44_4 s1 s2 (s1.length : Int) 0)

def run_slices_Equal_int_int {R : Type} (K0 : Bool → Option R) : Nat → (List Int) → (List Int) → Int → Int → Option R
  | 0 => fun _ _ _ _ => none
  | n + 1 => s_slices_Equal_int_int_4 (run_slices_Equal_int_int K0 n) K0

def l_slices_Equal_int_int {R : Type} (s1 s2 : List Int) (K0 : Bool → Option R) : Option R := evl fun fuel => e_slices_Equal_int_int (run_slices_Equal_int_int K0 fuel) K0 s1 s2

theorem ok_slices_Equal_int_int {R : Type} (s1 s2 : List Int) (K0 : Bool → Option R) {r : R} (h : l_slices_Equal_int_int s1 s2 K0 = some r) : ∃ fuel, e_slices_Equal_int_int (run_slices_Equal_int_int K0 fuel) K0 s1 s2 = some r := evl_ok h

theorem equalL_eq {R : Type} {a b : List Int} (h : short a) (K0 : Bool → Option R) : l_slices_Equal_int_int a b K0 = K0 (decide (a = b)) := by
  have hs : a.length < 4611686018427387904 := h
  unfold l_slices_Equal_int_int
  refine evl_eq ?_
  by_cases hl : a.length = b.length
  · have key : ∀ (d i : Nat), i + d = a.length → a.take i = b.take i → Reach (fun m => run_slices_Equal_int_int K0 m a b (a.length : Int) (i : Int)) (K0 (decide (a = b))) := by
      intro d
      induction d with
      | zero =>
        intro i hi ht
        refine .now fun m => ?_
        dsimp only [run_slices_Equal_int_int]
        unfold s_slices_Equal_int_int_4
        rw [br_neg (by omega)]
        rw [List.take_of_length_le (by omega), List.take_of_length_le (by omega)] at ht
        simp [ht]
      | succ d ih =>
        intro i hi ht
        have hi1 : i < a.length := by omega
        have hi2 : i < b.length := by omega
        by_cases he : a[i] = b[i]
        · refine .step (fun m => ?_) (ih (i + 1) (by omega) ?_)
          · dsimp only [run_slices_Equal_int_int]
            unfold s_slices_Equal_int_int_4
            rw [br_pos (by omega), br_pos (by omega), br_pos (by omega), Int.toNat_natCast, getD_of 0 hi1, getD_of 0 hi2, br_ne' he, wr _ (by omega) (by omega)]
            rfl
          · rw [List.take_add_one, List.take_add_one, ht, List.getElem?_eq_getElem hi1, List.getElem?_eq_getElem hi2, he]
        · refine .now fun m => ?_
          dsimp only [run_slices_Equal_int_int]
          unfold s_slices_Equal_int_int_4
          rw [br_pos (by omega), br_pos (by omega), br_pos (by omega), Int.toNat_natCast, getD_of 0 hi1, getD_of 0 hi2, br_ne he]
          have : a ≠ b := fun e => he (by subst e; rfl)
          simp [this]
    refine .same (fun m => ?_) (key a.length 0 (by omega) (by simp))
    unfold e_slices_Equal_int_int
    rw [br_ne' (by omega)]
    rfl
  · refine .now fun m => ?_
    unfold e_slices_Equal_int_int
    rw [br_ne (by omega)]
    have : a ≠ b := fun e => hl (by rw [e])
    simp [this]

abbrev LT_round_of_walk_Hunt := {R : Type} → Int → Int → Int → Int → (List Int) → (List Int) → Int → Int → Int → Int → (List Int) → (List Int) → (List Int) → Int → Int → (List Int) → (Int → Int → Int → Int → (List Int) → (List Int) → Int → Int → Int → Int → (List Int) → (List Int) → (List Int) → Int → Int → (List Int) → Option R) → (Int → Int → Int → Int → (List Int) → (List Int) → Int → Int → Int → Int → (List Int) → (List Int) → (List Int) → Int → Int → (List Int) → Option R) → Option R
/-- round of tutor/walk.Hunt -/
def l_round_of_walk_Hunt {R : Type} (o1 o1_1 o1_2 o1_3 : Int) (o1_4 o1_5 : List Int) (o2 o2_1 o2_2 o2_3 : Int) (o2_4 o2_5 o4 : List Int) (o5 o6 : Int) (o7 : List Int) (K0 : Int → Int → Int → Int → (List Int) → (List Int) → Int → Int → Int → Int → (List Int) → (List Int) → (List Int) → Int → Int → (List Int) → Option R) (K1 : Int → Int → Int → Int → (List Int) → (List Int) → Int → Int → Int → Int → (List Int) → (List Int) → (List Int) → Int → Int → (List Int) → Option R) : Option R :=
  l_machine_Run o1 o1_1 o1_2 o1_3 o1_4 o1_5 o7
   (fun r1 r2 =>
    l_machine_Run o2 o2_1 o2_2 o2_3 o2_4 o2_5 o7
     (fun r3 r4 =>
      l_slices_Equal_int_int r2 r4
       (fun r5 =>
        bi (!r5)
         (twice
          (K0 o1 o1_1 o1_2 o1_3 o1_4 o1_5 o2 o2_1 o2_2 o2_3 o2_4 o2_5 o4 (IntKind.i64.wrap (o5 + 1)) 0 o7))
         (K1 o1 o1_1 o1_2 o1_3 o1_4 o1_5 o2 o2_1 o2_2 o2_3 o2_4 o2_5 o4 (IntKind.i64.wrap (o5 + 1)) o6 o7))))

abbrev LT_walk_drawn_1_ywalk_Hunt := {R : Type} → Int → Int → Int → Int → (List Int) → (List Int) → Int → Int → Int → Int → (List Int) → (List Int) → (List Int) → Int → Int → Int → Int → Int → Int → Int → (Int → Int → Int → Int → (List Int) → (List Int) → Int → Int → Int → Int → (List Int) → (List Int) → (List Int) → Int → Int → Int → Int → Int → Int → Int → (List Int) → Option R) → (Int → Int → Int → Int → (List Int) → (List Int) → Int → Int → Int → Int → (List Int) → (List Int) → (List Int) → Int → Int → Int → Int → Int → Int → Int → Option R) → Option R
abbrev GT_walk_drawn_1_ywalk_Hunt_2 (R : Type) := Int → Int → Int → Int → Int → Int → (List Int) → (List Int) → Int → Int → Int → Int → (List Int) → (List Int) → (List Int) → Int → Int → Int → Int → Int → Int → Int → Int → Option R
/-- tutor/walk.drawn$1 -/
def s_walk_drawn_1_ywalk_Hunt_2 {R : Type} (g48_2 : GT_walk_drawn_1_ywalk_Hunt_2 R) (K0 : Int → Int → Int → Int → (List Int) → (List Int) → Int → Int → Int → Int → (List Int) → (List Int) → (List Int) → Int → Int → Int → Int → Int → Int → Int → (List Int) → Option R) (K1 : Int → Int → Int → Int → (List Int) → (List Int) → Int → Int → Int → Int → (List Int) → (List Int) → (List Int) → Int → Int → Int → Int → Int → Int → Int → Option R) (x12 x13 o1 o1_1 o1_2 o1_3 : Int) (o1_4 o1_5 : List Int) (o2 o2_1 o2_2 o2_3 : Int) (o2_4 o2_5 o4 : List Int) (o5 o6 o7 o8 o9 o10 o11 o12 : Int) : Option R :=
  bi (decide (x13 < x12))
   (l_walk_Walk_Word o9 o10 o11 o12
    (fun r2 r3 r4 =>
     l_round_of_walk_Hunt o1 o1_1 o1_2 o1_3 o1_4 o1_5 o2 o2_1 o2_2 o2_3 o2_4 o2_5 o4 o5 o6 r4
      (fun r5 r6 r7 r8 r9 r10 r11 r12 r13 r14 r15 r16 r17 r18 r19 r20 =>
       K0 r5 r6 r7 r8 r9 r10 r11 r12 r13 r14 r15 r16 r17 r18 r19 o7 o8 o9 o10 o11 r20)
      (fun r21 r22 r23 r24 r25 r26 r27 r28 r29 r30 r31 r32 r33 r34 r35 r36 =>
       g48_2 x12 (IntKind.i64.wrap (x13 + 1)) r21 r22 r23 r24 r25 r26 r27 r28 r29 r30 r31 r32 r33 r34 r35 o7 o8 o9 o10 o11 r3)))
   (K1 o1 o1_1 o1_2 o1_3 o1_4 o1_5 o2 o2_1 o2_2 o2_3 o2_4 o2_5 o4 o5 o6 o7 o8 o9 o10 o11)

/-- tutor/walk.drawn$1 -/
def e_walk_drawn_1_ywalk_Hunt {R : Type} (g48_2 : GT_walk_drawn_1_ywalk_Hunt_2 R) (K0 : Int → Int → Int → Int → (List Int) → (List Int) → Int → Int → Int → Int → (List Int) → (List Int) → (List Int) → Int → Int → Int → Int → Int → Int → Int → (List Int) → Option R) (K1 : Int → Int → Int → Int → (List Int) → (List Int) → Int → Int → Int → Int → (List Int) → (List Int) → (List Int) → Int → Int → Int → Int → Int → Int → Int → Option R) (o1 o1_1 o1_2 o1_3 : Int) (o1_4 o1_5 : List Int) (o2 o2_1 o2_2 o2_3 : Int) (o2_4 o2_5 o4 : List Int) (o5 o6 o7 o8 o9 o10 o11 : Int) : Option R :=
  l_walk_New o7
   (fun r1 =>
    g48_2 o8 0 o1 o1_1 o1_2 o1_3 o1_4 o1_5 o2 o2_1 o2_2 o2_3 o2_4 o2_5 o4 o5 o6 o7 o8 o9 o10 o11 r1)

def run_walk_drawn_1_ywalk_Hunt {R : Type} (K0 : Int → Int → Int → Int → (List Int) → (List Int) → Int → Int → Int → Int → (List Int) → (List Int) → (List Int) → Int → Int → Int → Int → Int → Int → Int → (List Int) → Option R) (K1 : Int → Int → Int → Int → (List Int) → (List Int) → Int → Int → Int → Int → (List Int) → (List Int) → (List Int) → Int → Int → Int → Int → Int → Int → Int → Option R) : Nat → Int → Int → Int → Int → Int → Int → (List Int) → (List Int) → Int → Int → Int → Int → (List Int) → (List Int) → (List Int) → Int → Int → Int → Int → Int → Int → Int → Int → Option R
  | 0 => fun _ _ _ _ _ _ _ _ _ _ _ _ _ _ _ _ _ _ _ _ _ _ _ => none
  | n + 1 => s_walk_drawn_1_ywalk_Hunt_2 (run_walk_drawn_1_ywalk_Hunt K0 K1 n) K0 K1

def l_walk_drawn_1_ywalk_Hunt {R : Type} (o1 o1_1 o1_2 o1_3 : Int) (o1_4 o1_5 : List Int) (o2 o2_1 o2_2 o2_3 : Int) (o2_4 o2_5 o4 : List Int) (o5 o6 o7 o8 o9 o10 o11 : Int) (K0 : Int → Int → Int → Int → (List Int) → (List Int) → Int → Int → Int → Int → (List Int) → (List Int) → (List Int) → Int → Int → Int → Int → Int → Int → Int → (List Int) → Option R) (K1 : Int → Int → Int → Int → (List Int) → (List Int) → Int → Int → Int → Int → (List Int) → (List Int) → (List Int) → Int → Int → Int → Int → Int → Int → Int → Option R) : Option R := evl fun fuel => e_walk_drawn_1_ywalk_Hunt (run_walk_drawn_1_ywalk_Hunt K0 K1 fuel) K0 K1 o1 o1_1 o1_2 o1_3 o1_4 o1_5 o2 o2_1 o2_2 o2_3 o2_4 o2_5 o4 o5 o6 o7 o8 o9 o10 o11

theorem ok_walk_drawn_1_ywalk_Hunt {R : Type} (o1 o1_1 o1_2 o1_3 : Int) (o1_4 o1_5 : List Int) (o2 o2_1 o2_2 o2_3 : Int) (o2_4 o2_5 o4 : List Int) (o5 o6 o7 o8 o9 o10 o11 : Int) (K0 : Int → Int → Int → Int → (List Int) → (List Int) → Int → Int → Int → Int → (List Int) → (List Int) → (List Int) → Int → Int → Int → Int → Int → Int → Int → (List Int) → Option R) (K1 : Int → Int → Int → Int → (List Int) → (List Int) → Int → Int → Int → Int → (List Int) → (List Int) → (List Int) → Int → Int → Int → Int → Int → Int → Int → Option R) {r : R} (h : l_walk_drawn_1_ywalk_Hunt o1 o1_1 o1_2 o1_3 o1_4 o1_5 o2 o2_1 o2_2 o2_3 o2_4 o2_5 o4 o5 o6 o7 o8 o9 o10 o11 K0 K1 = some r) : ∃ fuel, e_walk_drawn_1_ywalk_Hunt (run_walk_drawn_1_ywalk_Hunt K0 K1 fuel) K0 K1 o1 o1_1 o1_2 o1_3 o1_4 o1_5 o2 o2_1 o2_2 o2_3 o2_4 o2_5 o4 o5 o6 o7 o8 o9 o10 o11 = some r := evl_ok h

theorem huntY_go {R : Type} {k K O N : Int} {nx ou : List Int} {k' K' O' N' : Int} {nx' ou' : List Int} (o1 : okL nx) (o2 : okL ou) (o3 : okL nx') (o4 : okL ou') {q low high seed cnt : Int} (hin : inI q ∧ inI low ∧ inI high) (hc : cnt ≤ 65536)
    (K0 : Int → Int → Int → Int → (List Int) → (List Int) → Int → Int → Int → Int → (List Int) → (List Int) → (List Int) → Int → Int → Int → Int → Int → Int → Int → (List Int) → Option R)
    (K1 : Int → Int → Int → Int → (List Int) → (List Int) → Int → Int → Int → Int → (List Int) → (List Int) → (List Int) → Int → Int → Int → Int → Int → Int → Int → Option R) :
    ∀ (d i : Nat) (x : Int), ((i + d : Nat) : Int) = cnt →
      Reach (fun m => run_walk_drawn_1_ywalk_Hunt K0 K1 m cnt (i : Int) k K O N nx ou k' K' O' N' nx' ou' [] (i : Int) 0 seed cnt q low high x)
        (match findP (diffS k K O N nx ou k' K' O' N' nx' ou') (lotsS q low high d x) with
          | some j => K0 k K O N nx ou k' K' O' N' nx' ou' [] ((i + j + 1 : Nat) : Int) 0 seed cnt q low high ((lotsS q low high d x).getD j [])
          | none => K1 k K O N nx ou k' K' O' N' nx' ou' [] ((i + d : Nat) : Int) 0 seed cnt q low high) := by
  intro d
  induction d with
  | zero =>
    intro i x hi
    refine .now fun m => ?_
    dsimp only [run_walk_drawn_1_ywalk_Hunt]
    unfold s_walk_drawn_1_ywalk_Hunt_2
    rw [br_neg (by omega)]
    rfl
  | succ d ih =>
    intro i x hi
    have hstep : ∀ m, run_walk_drawn_1_ywalk_Hunt K0 K1 (m + 1) cnt (i : Int) k K O N nx ou k' K' O' N' nx' ou' [] (i : Int) 0 seed cnt q low high x =
        if diffS k K O N nx ou k' K' O' N' nx' ou' (drawnS q low high x).2.1 = true then K0 k K O N nx ou k' K' O' N' nx' ou' [] ((i + 1 : Nat) : Int) 0 seed cnt q low high (drawnS q low high x).2.1
        else run_walk_drawn_1_ywalk_Hunt K0 K1 m cnt ((i + 1 : Nat) : Int) k K O N nx ou k' K' O' N' nx' ou' [] ((i + 1 : Nat) : Int) 0 seed cnt q low high (drawnS q low high x).2.2 := by
      intro m
      dsimp only [run_walk_drawn_1_ywalk_Hunt]
      unfold s_walk_drawn_1_ywalk_Hunt_2 l_round_of_walk_Hunt l_machine_Run
      rw [br_pos (by omega), walkWord_eq hin]
      try dsimp only
      rw [from_eq o1 o2]
      try dsimp only
      rw [from_eq o3 o4]
      try dsimp only
      rw [equalL_eq (by have := from_short (k := k) (K := K) (O := O) (N := N) (nx := nx) (ou := ou) (s := 0) (w := (drawnS q low high x).2.1); unfold short; omega)]
      try dsimp only
      rw [twice_eq, wr ((i : Int) + 1) (by omega) (by omega), br_if]
      rfl
    have e0 : lotsS q low high (d + 1) x = (drawnS q low high x).2.1 :: lotsS q low high d (drawnS q low high x).2.2 := rfl
    rw [e0]
    simp only [findP]
    by_cases hd : diffS k K O N nx ou k' K' O' N' nx' ou' (drawnS q low high x).2.1 = true
    · rw [if_pos hd]
      refine .now fun m => ?_
      try dsimp only
      rw [hstep, if_pos hd]
      rfl
    · rw [if_neg hd]
      refine .step (fun m => ?_) ((ih (i + 1) (drawnS q low high x).2.2 (by omega)).of_eq ?_)
      · try dsimp only
        rw [hstep, if_neg hd]
      · cases findP (diffS k K O N nx ou k' K' O' N' nx' ou') (lotsS q low high d (drawnS q low high x).2.2) with
        | none =>
          dsimp only [Option.map]
          rw [show i + 1 + d = i + (d + 1) by omega]
        | some j =>
          dsimp only [Option.map]
          rw [show i + 1 + j + 1 = i + (j + 1) + 1 by omega]
          rfl

abbrev LT_walk_Hunt := {R : Type} → Int → Int → Int → Int → (List Int) → (List Int) → Int → Int → Int → Int → (List Int) → (List Int) → Int → Int → Int → Int → (Int → Int → (List Int) → Option R) → Option R
/-- tutor/walk.Hunt -/
def l_walk_Hunt {R : Type} (a a_1 a_2 a_3 : Int) (a_4 a_5 : List Int) (b b_1 b_2 b_3 : Int) (b_4 b_5 : List Int) (seed count low high : Int) (K0 : Int → Int → (List Int) → Option R) : Option R :=
  l_differ_Separate a a_1 a_2 a_3 a_4 a_5 b b_1 b_2 b_3 b_4 b_5
   (fun r1 r2 r3 =>
    bi (r2 != 0)
     (K0 0 r2 ([] : List Int))
     (l_walk_asked a_1 count low high
      (fun r4 =>
       bi (r4 != 0)
        (K0 0 r4 ([] : List Int))
        (l_walk_drawn seed a_1 count low high
         (fun r5 r6 r7 r8 r9 =>
          l_walk_drawn_1_ywalk_Hunt a a_1 a_2 a_3 a_4 a_5 b b_1 b_2 b_3 b_4 b_5 ([] : List Int) 0 0 r5 r6 r7 r8 r9
           (fun r10 r11 r12 r13 r14 r15 r16 r17 r18 r19 r20 r21 r22 r23 r24 r25 r26 r27 r28 r29 r30 =>
            K0 r23 r24 r30)
           (fun r31 r32 r33 r34 r35 r36 r37 r38 r39 r40 r41 r42 r43 r44 r45 r46 r47 r48 r49 r50 =>
            K0 0 4 ([] : List Int)))))))

theorem hunt_eq {R : Type} {k K O N : Int} {nx ou : List Int} {k' K' O' N' : Int} {nx' ou' : List Int} (o1 : okL nx) (o2 : okL ou) (o3 : okL nx') (o4 : okL ou') {seed count low high : Int} (hin : inI K ∧ inI low ∧ inI high) (K0 : Int → Int → List Int → Option R) :
    l_walk_Hunt k K O N nx ou k' K' O' N' nx' ou' seed count low high K0 =
      K0 (huntS (sepS k K O N nx ou k' K' O' N' nx' ou').2.1 (diffS k K O N nx ou k' K' O' N' nx' ou') K count low high seed).1
        (huntS (sepS k K O N nx ou k' K' O' N' nx' ou').2.1 (diffS k K O N nx ou k' K' O' N' nx' ou') K count low high seed).2.1
        (huntS (sepS k K O N nx ou k' K' O' N' nx' ou').2.1 (diffS k K O N nx ou k' K' O' N' nx' ou') K count low high seed).2.2 := by
  unfold l_walk_Hunt huntS
  rw [sep_eq o1 o2 o3 o4]
  try dsimp only
  by_cases c : (sepS k K O N nx ou k' K' O' N' nx' ou').2.1 = 0
  · rw [br_ne' c, if_neg (by simpa using c), asked_eq]
    try dsimp only
    by_cases h : askS K count low high = 0
    · rw [br_ne' h, if_neg (by simpa using h)]
      obtain ⟨a1, a2, a3⟩ := askS_zero h
      unfold l_walk_drawn
      try dsimp only
      have e : ∀ (A : Int → Int → Int → Int → (List Int) → (List Int) → Int → Int → Int → Int → (List Int) → (List Int) → (List Int) → Int → Int → Int → Int → Int → Int → Int → (List Int) → Option R)
          (B : Int → Int → Int → Int → (List Int) → (List Int) → Int → Int → Int → Int → (List Int) → (List Int) → (List Int) → Int → Int → Int → Int → Int → Int → Int → Option R),
          l_walk_drawn_1_ywalk_Hunt k K O N nx ou k' K' O' N' nx' ou' [] 0 0 seed count K low high A B =
            match findP (diffS k K O N nx ou k' K' O' N' nx' ou') (lotsS K low high count.toNat (seedS seed)) with
            | some j => A k K O N nx ou k' K' O' N' nx' ou' [] ((j + 1 : Nat) : Int) 0 seed count K low high ((lotsS K low high count.toNat (seedS seed)).getD j [])
            | none => B k K O N nx ou k' K' O' N' nx' ou' [] count 0 seed count K low high := by
        intro A B
        unfold l_walk_drawn_1_ywalk_Hunt
        refine evl_eq (.same (G := fun m => run_walk_drawn_1_ywalk_Hunt A B m count ((0 : Nat) : Int) k K O N nx ou k' K' O' N' nx' ou' [] ((0 : Nat) : Int) 0 seed count K low high (seedS seed)) (fun m => ?_) ((huntY_go o1 o2 o3 o4 hin a3 A B count.toNat 0 (seedS seed) (by omega)).of_eq ?_))
        · unfold e_walk_drawn_1_ywalk_Hunt
          rw [new_eq]
          rfl
        · cases findP (diffS k K O N nx ou k' K' O' N' nx' ou') (lotsS K low high count.toNat (seedS seed)) with
          | none =>
            dsimp only
            rw [show ((0 + count.toNat : Nat) : Int) = count by omega]
          | some j =>
            dsimp only
            rw [show 0 + j + 1 = j + 1 by omega]
      rw [e]
      cases findP (diffS k K O N nx ou k' K' O' N' nx' ou') (lotsS K low high count.toNat (seedS seed)) with
      | none => rfl
      | some j => rfl
    · rw [br_ne h, if_pos (by simpa using h)]
  · rw [br_ne c, if_pos (by simpa using c)]

abbrev LT_tutorref03_Check := {R : Type} → Int → Int → Int → Int → (List Int) → (List Int) → (Int → Int → Option R) → Option R
abbrev GT_tutorref03_Check_15 (R : Type) := Int → Int → Int → Int → Int → (List Int) → (List Int) → Option R
abbrev GT_tutorref03_Check_20 (R : Type) := Int → Int → Int → Int → Int → (List Int) → (List Int) → Option R
/-- tutor/tutorref03.Check -/
def s_tutorref03_Check_15 {R : Type} (g41_15 : GT_tutorref03_Check_15 R) (g41_20 : GT_tutorref03_Check_20 R) (K0 : Int → Int → Option R) (i o0 o0_1 o0_2 o0_3 : Int) (o0_4 o0_5 : List Int) : Option R :=
  bi (decide (i < (o0_4.length : Int)))
   (bi (decide (0 ≤ i ∧ i < ((o0_4.length : Nat) : Int)))
    (bi (decide ((o0_4.getD i.toNat 0) < 0))
     (K0 i 32)
     (bi (decide (0 ≤ i ∧ i < ((o0_4.length : Nat) : Int)))
      (bi (decide ((o0_4.getD i.toNat 0) ≥ o0_3))
       (K0 i 32)
       (g41_15 (IntKind.i64.wrap (i + 1)) o0 o0_1 o0_2 o0_3 o0_4 o0_5))
      none))
    none)
   (g41_20 0 o0 o0_1 o0_2 o0_3 o0_4 o0_5)

/-- tutor/tutorref03.Check -/
def s_tutorref03_Check_20 {R : Type} (g41_15 : GT_tutorref03_Check_15 R) (g41_20 : GT_tutorref03_Check_20 R) (K0 : Int → Int → Option R) (i o0 o0_1 o0_2 o0_3 : Int) (o0_4 o0_5 : List Int) : Option R :=
  bi (decide (i < (o0_5.length : Int)))
   (bi (decide (0 ≤ i ∧ i < ((o0_5.length : Nat) : Int)))
    (bi (decide ((o0_5.getD i.toNat 0) < 0))
     (K0 i 33)
     (bi (decide (0 ≤ i ∧ i < ((o0_5.length : Nat) : Int)))
      (bi (decide ((o0_5.getD i.toNat 0) ≥ o0_2))
       (K0 i 33)
       (g41_20 (IntKind.i64.wrap (i + 1)) o0 o0_1 o0_2 o0_3 o0_4 o0_5))
      none))
    none)
   (K0 0 0)

/-- tutor/tutorref03.Check -/
def e_tutorref03_Check {R : Type} (g41_15 : GT_tutorref03_Check_15 R) (g41_20 : GT_tutorref03_Check_20 R) (K0 : Int → Int → Option R) (m m_1 m_2 m_3 : Int) (m_4 m_5 : List Int) : Option R :=
  bi (m != 1)
   (bi (m != 2)
    (K0 0 30)
    (bi (decide (m_1 < 1))
     (K0 0 1)
     (bi (decide (m_1 > 64))
      (K0 0 1)
      (bi (m == 1)
       (bi (m_2 != 2)
        (K0 0 33)
        (bi (decide (m_2 < 1))
         (K0 0 33)
         (bi (decide (m_2 > 64))
          (K0 0 33)
          (bi (decide (m_3 < 1))
           (K0 0 3)
           (bi (decide (m_3 > 1024))
            (K0 0 3)
            (bi (m == 2)
             (bi ((m_4.length : Int) != (IntKind.i64.wrap (m_3 * m_1)))
              (K0 0 31)
              (bi ((m_5.length : Int) != (IntKind.i64.wrap (m_3 * m_1)))
               (K0 0 31)
               (g41_15 0 m m_1 m_2 m_3 m_4 m_5)))
             (bi ((m_4.length : Int) != (IntKind.i64.wrap (m_3 * m_1)))
              (K0 0 31)
              (bi ((m_5.length : Int) != m_3)
               (K0 0 31)
               (g41_15 0 m m_1 m_2 m_3 m_4 m_5)))))))))
       (bi (decide (m_2 < 1))
        (K0 0 33)
        (bi (decide (m_2 > 64))
         (K0 0 33)
         (bi (decide (m_3 < 1))
          (K0 0 3)
          (bi (decide (m_3 > 1024))
           (K0 0 3)
           (bi (m == 2)
            (bi ((m_4.length : Int) != (IntKind.i64.wrap (m_3 * m_1)))
             (K0 0 31)
             (bi ((m_5.length : Int) != (IntKind.i64.wrap (m_3 * m_1)))
              (K0 0 31)
              (g41_15 0 m m_1 m_2 m_3 m_4 m_5)))
            (bi ((m_4.length : Int) != (IntKind.i64.wrap (m_3 * m_1)))
             (K0 0 31)
             (bi ((m_5.length : Int) != m_3)
              (K0 0 31)
              (g41_15 0 m m_1 m_2 m_3 m_4 m_5))))))))))))
   (bi (decide (m_1 < 1))
    (K0 0 1)
    (bi (decide (m_1 > 64))
     (K0 0 1)
     (bi (m == 1)
      (bi (m_2 != 2)
       (K0 0 33)
       (bi (decide (m_2 < 1))
        (K0 0 33)
        (bi (decide (m_2 > 64))
         (K0 0 33)
         (bi (decide (m_3 < 1))
          (K0 0 3)
          (bi (decide (m_3 > 1024))
           (K0 0 3)
           (bi (m == 2)
            (bi ((m_4.length : Int) != (IntKind.i64.wrap (m_3 * m_1)))
             (K0 0 31)
             (bi ((m_5.length : Int) != (IntKind.i64.wrap (m_3 * m_1)))
              (K0 0 31)
              (g41_15 0 m m_1 m_2 m_3 m_4 m_5)))
            (bi ((m_4.length : Int) != (IntKind.i64.wrap (m_3 * m_1)))
             (K0 0 31)
             (bi ((m_5.length : Int) != m_3)
              (K0 0 31)
              (g41_15 0 m m_1 m_2 m_3 m_4 m_5)))))))))
      (bi (decide (m_2 < 1))
       (K0 0 33)
       (bi (decide (m_2 > 64))
        (K0 0 33)
        (bi (decide (m_3 < 1))
         (K0 0 3)
         (bi (decide (m_3 > 1024))
          (K0 0 3)
          (bi (m == 2)
           (bi ((m_4.length : Int) != (IntKind.i64.wrap (m_3 * m_1)))
            (K0 0 31)
            (bi ((m_5.length : Int) != (IntKind.i64.wrap (m_3 * m_1)))
             (K0 0 31)
             (g41_15 0 m m_1 m_2 m_3 m_4 m_5)))
           (bi ((m_4.length : Int) != (IntKind.i64.wrap (m_3 * m_1)))
            (K0 0 31)
            (bi ((m_5.length : Int) != m_3)
             (K0 0 31)
             (g41_15 0 m m_1 m_2 m_3 m_4 m_5)))))))))))

def run_tutorref03_Check {R : Type} (K0 : Int → Int → Option R) : Nat → (Int → Int → Int → Int → Int → (List Int) → (List Int) → Option R) × (Int → Int → Int → Int → Int → (List Int) → (List Int) → Option R)
  | 0 => (fun _ _ _ _ _ _ _ => none, fun _ _ _ _ _ _ _ => none)
  | n + 1 => (s_tutorref03_Check_15 (run_tutorref03_Check K0 n).1 (run_tutorref03_Check K0 n).2 K0, s_tutorref03_Check_20 (run_tutorref03_Check K0 n).1 (run_tutorref03_Check K0 n).2 K0)

def l_tutorref03_Check {R : Type} (k K O N : Int) (nx ou : List Int) (K0 : Int → Int → Option R) : Option R :=
  bi (decide (short nx ∧ short ou)) (K0 (checkR k K O N nx ou).1 (checkR k K O N nx ou).2) none

theorem checkR_head {R : Type} (g1 g2 : Int → Int → Int → Int → Int → List Int → List Int → Option R) (K0 : Int → Int → Option R) (k K O N : Int) (nx ou : List Int) :
    e_tutorref03_Check g1 g2 K0 k K O N nx ou = if headS k K O N nx ou = 0 then g1 0 k K O N nx ou else K0 0 (headS k K O N nx ou) := by
  have L0 : headS k K O N nx ou = 0 → g1 0 k K O N nx ou = if headS k K O N nx ou = 0 then g1 0 k K O N nx ou else K0 0 (headS k K O N nx ou) := fun h => by rw [if_pos h]
  have LK : ∀ c, headS k K O N nx ou = c → c ≠ 0 → K0 0 c = if headS k K O N nx ou = 0 then g1 0 k K O N nx ou else K0 0 (headS k K O N nx ou) := fun c h h0 => by rw [h, if_neg h0]
  unfold e_tutorref03_Check
  simp only [br_if, bne_iff_ne, beq_iff_eq, decide_eq_true_eq, ne_eq]
  by_cases hb : (1 ≤ N ∧ N ≤ 1024) ∧ 1 ≤ K ∧ K ≤ 64
  · have := mulK hb
    rw [wr (N * K) (by omega) (by omega)]
    repeat' (refine ite_l (fun _ => ?_) (fun _ => ?_))
    all_goals first
      | exact LK _ (by unfold headS; repeat' (refine ite_l (fun _ => ?_) (fun _ => ?_)); all_goals omega) (by omega)
      | exact L0 (by unfold headS; repeat' (refine ite_l (fun _ => ?_) (fun _ => ?_)); all_goals omega)
  · repeat' (refine ite_l (fun _ => ?_) (fun _ => ?_))
    all_goals first
      | exact LK _ (by unfold headS; repeat' (refine ite_l (fun _ => ?_) (fun _ => ?_)); all_goals omega) (by omega)
      | exact L0 (by unfold headS; repeat' (refine ite_l (fun _ => ?_) (fun _ => ?_)); all_goals omega)

theorem ok_tutorref03_Check {R : Type} (k K O N : Int) (nx ou : List Int) (K0 : Int → Int → Option R) {r : R} (h : l_tutorref03_Check k K O N nx ou K0 = some r) :
    ∃ fuel, e_tutorref03_Check (run_tutorref03_Check K0 fuel).1 (run_tutorref03_Check K0 fuel).2 K0 k K O N nx ou = some r := by
  unfold l_tutorref03_Check at h
  rcases bi_some h with ⟨hs, h⟩ | ⟨_, h⟩
  · obtain ⟨h1, h2⟩ : nx.length < 4611686018427387904 ∧ ou.length < 4611686018427387904 := of_decide_eq_true hs
    refine ⟨ou.length + 1 + (nx.length + 1), ?_⟩
    rw [← h, checkR_head]
    unfold checkR
    by_cases hh : headS k K O N nx ou = 0
    · rw [if_pos hh, if_neg (by simpa using hh)]
      have key2 : ∀ n, (run_tutorref03_Check K0 (n + (ou.length + 1))).2 0 k K O N nx ou = match findP (outside O) ou with | some i => K0 (i : Int) 33 | none => K0 0 0 := fun n =>
        scan_all (F := fun m i => (run_tutorref03_Check K0 (n + m)).2 (i : Int) k K O N nx ou) (outside O) (l := ou) (A := fun i => K0 i 33) (B := K0 0 0)
          (fun m => by
            show s_tutorref03_Check_20 (run_tutorref03_Check K0 (n + m)).1 (run_tutorref03_Check K0 (n + m)).2 K0 _ _ _ _ _ _ _ = _
            unfold s_tutorref03_Check_20
            rw [br_neg (by omega)])
          (fun m i hi => by
            show s_tutorref03_Check_20 (run_tutorref03_Check K0 (n + m)).1 (run_tutorref03_Check K0 (n + m)).2 K0 _ _ _ _ _ _ _ = _
            unfold s_tutorref03_Check_20
            rw [br_pos (by omega), br_pos (by omega), br_pos (p := 0 ≤ (i : Int) ∧ (i : Int) < ((ou.length : Nat) : Int)) (by omega), Int.toNat_natCast, getD_of 0 hi, wr _ (by omega) (by omega)]
            unfold outside
            cases decide (ou[i] < 0) <;> cases decide (ou[i] ≥ O) <;> rfl)
      have key1 := scan_all (F := fun m i => (run_tutorref03_Check K0 (ou.length + 1 + m)).1 (i : Int) k K O N nx ou) (outside N) (l := nx) (A := fun i => K0 i 32)
        (B := match findP (outside O) ou with | some i => K0 (i : Int) 33 | none => K0 0 0)
          (fun m => by
            show s_tutorref03_Check_15 (run_tutorref03_Check K0 (ou.length + 1 + m)).1 (run_tutorref03_Check K0 (ou.length + 1 + m)).2 K0 _ _ _ _ _ _ _ = _
            unfold s_tutorref03_Check_15
            rw [br_neg (by omega)]
            have := key2 m
            rwa [show m + (ou.length + 1) = ou.length + 1 + m by omega] at this)
          (fun m i hi => by
            show s_tutorref03_Check_15 (run_tutorref03_Check K0 (ou.length + 1 + m)).1 (run_tutorref03_Check K0 (ou.length + 1 + m)).2 K0 _ _ _ _ _ _ _ = _
            unfold s_tutorref03_Check_15
            rw [br_pos (by omega), br_pos (by omega), br_pos (p := 0 ≤ (i : Int) ∧ (i : Int) < ((nx.length : Nat) : Int)) (by omega), Int.toNat_natCast, getD_of 0 hi, wr _ (by omega) (by omega)]
            unfold outside
            cases decide (nx[i] < 0) <;> cases decide (nx[i] ≥ N) <;> rfl)
      refine key1.trans ?_
      cases findP (outside N) nx with
      | some i => rfl
      | none => cases findP (outside O) ou <;> rfl
    · rw [if_neg hh, if_pos (by simpa using hh)]
  · cases h

abbrev LT_tutorref07_now := {R : Type} → Int → Int → Int → Int → (List Int) → (List Int) → Int → Int → Int → Int → (List Int) → (List Int) → Int → Int → Int → (Bool → Option R) → Option R
/-- tutor/tutorref07.now -/
def l_tutorref07_now {R : Type} (a a_1 a_2 a_3 : Int) (a_4 a_5 : List Int) (b b_1 b_2 b_3 : Int) (b_4 b_5 : List Int) (s t x : Int) (K0 : Bool → Option R) : Option R :=
  bi (a == 1)
   (bi (decide (x < 0))
    (bi (decide (0 ≤ s ∧ s < ((a_5.length : Nat) : Int)))
     (bi (decide (0 ≤ t ∧ t < ((b_5.length : Nat) : Int)))
      (K0 ((a_5.getD s.toNat 0) != (b_5.getD t.toNat 0)))
      none)
     none)
    (K0 false))
   (bi (decide (x ≥ 0))
    (bi (decide (0 ≤ (IntKind.i64.wrap ((IntKind.i64.wrap (s * a_1)) + x)) ∧ (IntKind.i64.wrap ((IntKind.i64.wrap (s * a_1)) + x)) < ((a_5.length : Nat) : Int)))
     (bi (decide (0 ≤ (IntKind.i64.wrap ((IntKind.i64.wrap (t * b_1)) + x)) ∧ (IntKind.i64.wrap ((IntKind.i64.wrap (t * b_1)) + x)) < ((b_5.length : Nat) : Int)))
      (K0 ((a_5.getD ((IntKind.i64.wrap ((IntKind.i64.wrap (s * a_1)) + x)).toNat) 0) != (b_5.getD ((IntKind.i64.wrap ((IntKind.i64.wrap (t * b_1)) + x)).toNat) 0)))
      none)
     none)
    (K0 false))

theorem now_st {R : Type} {D : Duo} {O O' : Int} (A : Fine D.k D.K O D.N D.nx D.ou) (B : Fine D.k D.K O' D.M D.nx' D.ou') {p : Int × Int} (hp : D.inn p) (K0 : Bool → Option R) :
    l_tutorref07_now D.k D.K O D.N D.nx D.ou D.k D.K O' D.M D.nx' D.ou' p.1 p.2 (-1) K0 = K0 (D.st p) := by
  unfold l_tutorref07_now Duo.st
  have h1 := hp.1
  have h2 := hp.2
  rcases A.fk with h | h
  · have := A.fou1 h
    have := B.fou1 h
    rw [br_eq h, br_pos (by omega), br_pos (by omega), br_pos (by omega), h]
    rfl
  · rw [br_eq' (by omega), br_neg (by omega), h]
    rfl
theorem now_sy {R : Type} {D : Duo} {O O' : Int} (A : Fine D.k D.K O D.N D.nx D.ou) (B : Fine D.k D.K O' D.M D.nx' D.ou') {p : Int × Int} (hp : D.inn p) {x : Int} (hx : 0 ≤ x ∧ x < D.K) (K0 : Bool → Option R) :
    l_tutorref07_now D.k D.K O D.N D.nx D.ou D.k D.K O' D.M D.nx' D.ou' p.1 p.2 x K0 = K0 (D.sy p x) := by
  unfold l_tutorref07_now Duo.sy
  have h1 := idx_in hp.1 hx
  have h2 := idx_in hp.2 hx
  have := mulK ⟨A.fN, A.fK⟩
  have := mulK ⟨B.fN, B.fK⟩
  rcases A.fk with h | h
  · rw [br_eq h, br_neg (by omega), h]
    rfl
  · have := A.fou2 h
    have := B.fou2 h
    rw [br_eq' (by omega), br_pos (by omega), wr (p.1 * D.K) (by omega) (by omega), wr (p.2 * D.K) (by omega) (by omega), wr (p.1 * D.K + x) (by omega) (by omega), wr (p.2 * D.K + x) (by omega) (by omega), br_pos (by omega), br_pos (by omega), h]
    rfl

abbrev LT_tutorref01_Join := {R : Type} → (List Int) → (List Int) → ((List Int) → Option R) → Option R
/-- tutor/tutorref01.Join -/
def l_tutorref01_Join {R : Type} (a b : List Int) (K0 : (List Int) → Option R) : Option R :=
  bi (decide ((([] : List Int).length + a.length) * 8 ≤ lim))
   (bi (decide (((([] : List Int) ++ a).length + b.length) * 8 ≤ lim))
    (K0 ((([] : List Int) ++ a) ++ b))
    none)
   none

theorem join_eq {R : Type} {a b : List Int} (h : a.length + b.length ≤ 1000000000) (K0 : List Int → Option R) : l_tutorref01_Join a b K0 = K0 (a ++ b) := by
  unfold l_tutorref01_Join
  rw [br_pos (by simp [lim]; omega), br_pos (by simp [lim]; omega)]
  rfl

abbrev LT_tutorref07_search := {R : Type} → Int → Int → Int → Int → (List Int) → (List Int) → Int → Int → Int → Int → (List Int) → (List Int) → Int → Int → (Bool → (List Int) → Option R) → Option R
abbrev GT_tutorref07_search_8 (R : Type) := Int → Int → Int → Int → Int → (List Int) → (List Int) → Int → Int → Int → Int → (List Int) → (List Int) → (List Bool) → (List (List Int)) → (List Int) → Option R
abbrev GT_tutorref07_search_12 (R : Type) := Int → Int → Int → Int → Int → Int → Int → Int → (List Int) → (List Int) → Int → Int → Int → Int → (List Int) → (List Int) → (List Bool) → (List (List Int)) → (List Int) → Option R
/-- tutor/tutorref07.search -/
def s_tutorref07_search_8 {R : Type} (g45_8 : GT_tutorref07_search_8 R) (g45_12 : GT_tutorref07_search_12 R) (K0 : Bool → (List Int) → Option R) (i o0 o0_1 o0_2 o0_3 : Int) (o0_4 o0_5 : List Int) (o1 o1_1 o1_2 o1_3 : Int) (o1_4 o1_5 : List Int) (o2 : List Bool) (o3 : List (List Int)) (o4 : List Int) : Option R :=
  bi (decide (i < (o3.length : Int)))
   (bi (decide (0 ≤ i ∧ i < ((o4.length : Nat) : Int)))
    (bi (decide (o1_3 = 0))
     none
     (bi (decide (0 ≤ i ∧ i < ((o4.length : Nat) : Int)))
      (bi (decide (o1_3 = 0))
       none
       (g45_12 i (IntKind.i64.wrap ((o4.getD i.toNat 0).tdiv o1_3)) ((o4.getD i.toNat 0).tmod o1_3) 0 o0 o0_1 o0_2 o0_3 o0_4 o0_5 o1 o1_1 o1_2 o1_3 o1_4 o1_5 o2 o3 o4))
      none))
    none)
   (K0 false ([] : List Int))

/-- tutor/tutorref07.search -/
def s_tutorref07_search_12 {R : Type} (g45_8 : GT_tutorref07_search_8 R) (g45_12 : GT_tutorref07_search_12 R) (K0 : Bool → (List Int) → Option R) (i s t x o0 o0_1 o0_2 o0_3 : Int) (o0_4 o0_5 : List Int) (o1 o1_1 o1_2 o1_3 : Int) (o1_4 o1_5 : List Int) (o2 : List Bool) (o3 : List (List Int)) (o4 : List Int) : Option R :=
  bi (decide (x < o0_1))
   (bi (decide (0 ≤ i ∧ i < ((o3.length : Nat) : Int)))
    (l_tutorref01_Join (o3.getD i.toNat []) [x]
     (fun r2 =>
      bi (decide (0 ≤ (IntKind.i64.wrap ((IntKind.i64.wrap (s * o0_1)) + x)) ∧ (IntKind.i64.wrap ((IntKind.i64.wrap (s * o0_1)) + x)) < ((o0_4.length : Nat) : Int)))
       (bi (decide (0 ≤ (IntKind.i64.wrap ((IntKind.i64.wrap (t * o1_1)) + x)) ∧ (IntKind.i64.wrap ((IntKind.i64.wrap (t * o1_1)) + x)) < ((o1_4.length : Nat) : Int)))
        (l_tutorref07_now o0 o0_1 o0_2 o0_3 o0_4 o0_5 o1 o1_1 o1_2 o1_3 o1_4 o1_5 s t x
         (fun r3 =>
          bi r3
           (K0 true r2)
           (l_tutorref07_now o0 o0_1 o0_2 o0_3 o0_4 o0_5 o1 o1_1 o1_2 o1_3 o1_4 o1_5 (o0_4.getD ((IntKind.i64.wrap ((IntKind.i64.wrap (s * o0_1)) + x)).toNat) 0) (o1_4.getD ((IntKind.i64.wrap ((IntKind.i64.wrap (t * o1_1)) + x)).toNat) 0) (-1)
            (fun r4 =>
             bi r4
              (K0 true r2)
              (bi (decide (0 ≤ (IntKind.i64.wrap ((IntKind.i64.wrap ((o0_4.getD ((IntKind.i64.wrap ((IntKind.i64.wrap (s * o0_1)) + x)).toNat) 0) * o1_3)) + (o1_4.getD ((IntKind.i64.wrap ((IntKind.i64.wrap (t * o1_1)) + x)).toNat) 0))) ∧ (IntKind.i64.wrap ((IntKind.i64.wrap ((o0_4.getD ((IntKind.i64.wrap ((IntKind.i64.wrap (s * o0_1)) + x)).toNat) 0) * o1_3)) + (o1_4.getD ((IntKind.i64.wrap ((IntKind.i64.wrap (t * o1_1)) + x)).toNat) 0))) < ((o2.length : Nat) : Int)))
               (bi (!(o2.getD ((IntKind.i64.wrap ((IntKind.i64.wrap ((o0_4.getD ((IntKind.i64.wrap ((IntKind.i64.wrap (s * o0_1)) + x)).toNat) 0) * o1_3)) + (o1_4.getD ((IntKind.i64.wrap ((IntKind.i64.wrap (t * o1_1)) + x)).toNat) 0))).toNat) false))
                (bi (decide (0 ≤ (IntKind.i64.wrap ((IntKind.i64.wrap ((o0_4.getD ((IntKind.i64.wrap ((IntKind.i64.wrap (s * o0_1)) + x)).toNat) 0) * o1_3)) + (o1_4.getD ((IntKind.i64.wrap ((IntKind.i64.wrap (t * o1_1)) + x)).toNat) 0))) ∧ (IntKind.i64.wrap ((IntKind.i64.wrap ((o0_4.getD ((IntKind.i64.wrap ((IntKind.i64.wrap (s * o0_1)) + x)).toNat) 0) * o1_3)) + (o1_4.getD ((IntKind.i64.wrap ((IntKind.i64.wrap (t * o1_1)) + x)).toNat) 0))) < ((o2.length : Nat) : Int)))
                 (bi (decide ((o3.length + [r2].length) * 24 ≤ lim))
                  (bi (decide ((o4.length + [IntKind.i64.wrap ((IntKind.i64.wrap ((o0_4.getD ((IntKind.i64.wrap ((IntKind.i64.wrap (s * o0_1)) + x)).toNat) 0) * o1_3)) + (o1_4.getD ((IntKind.i64.wrap ((IntKind.i64.wrap (t * o1_1)) + x)).toNat) 0))].length) * 8 ≤ lim))
                   (g45_12 i s t (IntKind.i64.wrap (x + 1)) o0 o0_1 o0_2 o0_3 o0_4 o0_5 o1 o1_1 o1_2 o1_3 o1_4 o1_5 (o2.set ((IntKind.i64.wrap ((IntKind.i64.wrap ((o0_4.getD ((IntKind.i64.wrap ((IntKind.i64.wrap (s * o0_1)) + x)).toNat) 0) * o1_3)) + (o1_4.getD ((IntKind.i64.wrap ((IntKind.i64.wrap (t * o1_1)) + x)).toNat) 0))).toNat) true) (o3 ++ [r2]) (o4 ++ [IntKind.i64.wrap ((IntKind.i64.wrap ((o0_4.getD ((IntKind.i64.wrap ((IntKind.i64.wrap (s * o0_1)) + x)).toNat) 0) * o1_3)) + (o1_4.getD ((IntKind.i64.wrap ((IntKind.i64.wrap (t * o1_1)) + x)).toNat) 0))]))
                   none)
                  none)
                 none)
                (g45_12 i s t (IntKind.i64.wrap (x + 1)) o0 o0_1 o0_2 o0_3 o0_4 o0_5 o1 o1_1 o1_2 o1_3 o1_4 o1_5 o2 o3 o4))
               none)))))
        none)
       none))
    none)
   (g45_8 (IntKind.i64.wrap (i + 1)) o0 o0_1 o0_2 o0_3 o0_4 o0_5 o1 o1_1 o1_2 o1_3 o1_4 o1_5 o2 o3 o4)

/-- tutor/tutorref07.search -/
def e_tutorref07_search {R : Type} (g45_8 : GT_tutorref07_search_8 R) (g45_12 : GT_tutorref07_search_12 R) (K0 : Bool → (List Int) → Option R) (a a_1 a_2 a_3 : Int) (a_4 a_5 : List Int) (b b_1 b_2 b_3 : Int) (b_4 b_5 : List Int) (s t : Int) : Option R :=
  l_tutorref07_now a a_1 a_2 a_3 a_4 a_5 b b_1 b_2 b_3 b_4 b_5 s t (-1)
   (fun r1 =>
    bi r1
     (K0 true ([] : List Int))
     (bi (decide (0 ≤ (IntKind.i64.wrap (a_3 * b_3)) ∧ (IntKind.i64.wrap (a_3 * b_3)) ≤ (IntKind.i64.wrap (a_3 * b_3)) ∧ (IntKind.i64.wrap (a_3 * b_3)) ≤ 1073741824))
      (bi (decide (0 ≤ (IntKind.i64.wrap ((IntKind.i64.wrap (s * b_3)) + t)) ∧ (IntKind.i64.wrap ((IntKind.i64.wrap (s * b_3)) + t)) < (((List.replicate (IntKind.i64.wrap (a_3 * b_3)).toNat (false : Bool)).length : Nat) : Int)))
       (g45_8 0 a a_1 a_2 a_3 a_4 a_5 b b_1 b_2 b_3 b_4 b_5 ((List.replicate (IntKind.i64.wrap (a_3 * b_3)).toNat (false : Bool)).set ((IntKind.i64.wrap ((IntKind.i64.wrap (s * b_3)) + t)).toNat) true) [([] : List Int)] [IntKind.i64.wrap ((IntKind.i64.wrap (s * b_3)) + t)])
       none)
      none))

def run_tutorref07_search {R : Type} (K0 : Bool → (List Int) → Option R) : Nat → (Int → Int → Int → Int → Int → (List Int) → (List Int) → Int → Int → Int → Int → (List Int) → (List Int) → (List Bool) → (List (List Int)) → (List Int) → Option R) × (Int → Int → Int → Int → Int → Int → Int → Int → (List Int) → (List Int) → Int → Int → Int → Int → (List Int) → (List Int) → (List Bool) → (List (List Int)) → (List Int) → Option R)
  | 0 => (fun _ _ _ _ _ _ _ _ _ _ _ _ _ _ _ _ => none, fun _ _ _ _ _ _ _ _ _ _ _ _ _ _ _ _ _ _ _ => none)
  | n + 1 => (s_tutorref07_search_8 (run_tutorref07_search K0 n).1 (run_tutorref07_search K0 n).2 K0, s_tutorref07_search_12 (run_tutorref07_search K0 n).1 (run_tutorref07_search K0 n).2 K0)

def l_tutorref07_search {R : Type} (a : Int) (a_1 : Int) (a_2 : Int) (a_3 : Int) (a_4 : List Int) (a_5 : List Int) (b : Int) (b_1 : Int) (b_2 : Int) (b_3 : Int) (b_4 : List Int) (b_5 : List Int) (s : Int) (t : Int) (K0 : Bool → (List Int) → Option R) : Option R :=
  bi (decide ((checkR a a_1 a_2 a_3 a_4 a_5).2 = 0 ∧ (checkR b b_1 b_2 b_3 b_4 b_5).2 = 0 ∧ a = b ∧ a_1 = b_1 ∧ (0 ≤ s ∧ s < a_3) ∧ (0 ≤ t ∧ t < b_3)))
    (K0 (searchS ⟨a, a_1, a_3, b_3, a_4, a_5, b_4, b_5⟩ (s, t)).1 (searchS ⟨a, a_1, a_3, b_3, a_4, a_5, b_4, b_5⟩ (s, t)).2) none

/-- The marks are the row's. -/
structure Marks (D : Duo) (kn : List Bool) (L : List PW) : Prop where
  len : kn.length = (D.N * D.M).toNat
  get : ∀ q, D.inn q → kn.getD (q.1 * D.M + q.2).toNat false = known L q

theorem getD_setB (l : List Bool) (i t : Nat) (x : Bool) : (l.set i x).getD t false = if i = t ∧ i < l.length then x else l.getD t false := by
  rw [List.getD_eq_getElem?_getD, List.getElem?_set, List.getD_eq_getElem?_getD]
  by_cases h : i = t
  · subst h
    by_cases h2 : i < l.length
    · simp [h2]
    · simp [h2]
  · simp [h]

theorem known_snoc (L : List PW) (p q : Int × Int) (w : List Int) : known (L ++ [(p, w)]) q = (known L q || decide (p = q)) := by
  unfold known
  rw [List.any_append]
  congr 1
  rw [Bool.eq_iff_iff]
  simp [Prod.ext_iff]

theorem Marks.push {D : Duo} {kn : List Bool} {L : List PW} (M : Marks D kn L) {p : Int × Int} (hp : D.inn p) (w : List Int) : Marks D (kn.set (p.1 * D.M + p.2).toNat true) (L ++ [(p, w)]) := by
  refine ⟨by rw [List.length_set]; exact M.len, ?_⟩
  intro q hq
  have i1 := pair_in hp
  have i2 := pair_in hq
  have hl := M.len
  rw [getD_setB, known_snoc, M.get q hq]
  by_cases c : p = q
  · subst c
    rw [if_pos ⟨rfl, by omega⟩, decide_eq_true rfl, Bool.or_true]
  · rw [if_neg, decide_eq_false c, Bool.or_false]
    rintro ⟨h, _⟩
    have := pair_inj hp.2 hq.2 (show p.1 * D.M + p.2 = q.1 * D.M + q.2 by omega)
    exact c (Prod.ext this.1 this.2)

theorem words_get (L : List PW) (i : Nat) : (L.map (·.2)).getD i [] = (L.getD i pw0).2 := by
  simp only [List.getD_eq_getElem?_getD, List.getElem?_map]
  cases L[i]? <;> rfl
theorem ats_get (D : Duo) {L : List PW} {i : Nat} (h : i < L.length) : (L.map fun e => e.1.1 * D.M + e.1.2).getD i 0 = (L.getD i pw0).1.1 * D.M + (L.getD i pw0).1.2 := by
  rw [getD_of 0 (by simpa using h), List.getElem_map, getD_of pw0 h]
theorem pair_div {M a b : Int} (ha : 0 ≤ a) (h1 : 0 ≤ b ∧ b < M) : (a * M + b).tdiv M = a ∧ (a * M + b).tmod M = b := by
  have h0 : 0 ≤ a * M := Int.mul_nonneg ha (by omega)
  rw [Int.tdiv_eq_ediv_of_nonneg (by omega), Int.tmod_eq_emod_of_nonneg (by omega)]
  constructor
  · rw [Int.add_comm, Int.add_mul_ediv_right _ _ (by omega), Int.ediv_eq_zero_of_lt h1.1 h1.2]; omega
  · rw [Int.add_comm, Int.add_mul_emod_self_right, Int.emod_eq_of_lt h1.1 h1.2]

theorem rsearch_run {R : Type} {D : Duo} {O O' : Int} (A : Fine D.k D.K O D.N D.nx D.ou) (B : Fine D.k D.K O' D.M D.nx' D.ou') (s : Int × Int) (K0 : Bool → List Int → Option R) :
    ∀ (n i x : Nat) (L : List PW) (kn : List Bool) (r : Bool × List Int), bfs D n i x L = some r → Inv D s L → Marks D kn L → i < L.length → x ≤ D.K.toNat →
    Reach (fun m => (run_tutorref07_search K0 m).2 i (L.getD i pw0).1.1 (L.getD i pw0).1.2 x D.k D.K O D.N D.nx D.ou D.k D.K O' D.M D.nx' D.ou' kn (L.map (·.2)) (L.map fun e => e.1.1 * D.M + e.1.2)) (K0 r.1 r.2)
  | 0, _, _, _, _, _, h, _, _, _, _ => by cases h
  | n + 1, i, x, L, kn, r, h, I, W, hi, hx => by
    have F : D.Fine := ⟨⟨O, A⟩, ⟨O', B⟩⟩
    have hK := A.fK
    have hNK := mulK ⟨A.fN, A.fK⟩
    have hMK := mulK ⟨B.fN, B.fK⟩
    have hNM := mul_most A.fN B.fN
    have hmost := I.most
    have hm : L.getD i pw0 ∈ L := getD_mem hi
    have hp := I.inn _ hm
    have hrow : (L.map (·.2)).length = L.length := List.length_map _
    have hat : (L.map fun e => e.1.1 * D.M + e.1.2).length = L.length := List.length_map _
    unfold bfs at h
    by_cases c : (x : Int) < D.K
    · rw [if_pos c] at h
      have hx' : 0 ≤ (x : Int) ∧ (x : Int) < D.K := ⟨by omega, c⟩
      have i1 := idx_in hp.1 hx'
      have i2 := idx_in hp.2 hx'
      have f1 := A.fnx
      have f2 := B.fnx
      have hq := nxt_inn F hp hx'
      have hlen := I.len i hi
      have key : ∀ m, (run_tutorref07_search K0 (m + 1)).2 i (L.getD i pw0).1.1 (L.getD i pw0).1.2 x D.k D.K O D.N D.nx D.ou D.k D.K O' D.M D.nx' D.ou' kn (L.map (·.2)) (L.map fun e => e.1.1 * D.M + e.1.2) =
          if D.sy (L.getD i pw0).1 x || D.st (D.nxt (L.getD i pw0).1 x) then K0 true ((L.getD i pw0).2 ++ [(x : Int)])
          else if known L (D.nxt (L.getD i pw0).1 x) then (run_tutorref07_search K0 m).2 i (L.getD i pw0).1.1 (L.getD i pw0).1.2 ((x + 1 : Nat) : Int) D.k D.K O D.N D.nx D.ou D.k D.K O' D.M D.nx' D.ou' kn (L.map (·.2)) (L.map fun e => e.1.1 * D.M + e.1.2)
          else (run_tutorref07_search K0 m).2 i (L.getD i pw0).1.1 (L.getD i pw0).1.2 ((x + 1 : Nat) : Int) D.k D.K O D.N D.nx D.ou D.k D.K O' D.M D.nx' D.ou'
            (kn.set ((D.nxt (L.getD i pw0).1 x).1 * D.M + (D.nxt (L.getD i pw0).1 x).2).toNat true) (L.map (·.2) ++ [(L.getD i pw0).2 ++ [(x : Int)]]) ((L.map fun e => e.1.1 * D.M + e.1.2) ++ [(D.nxt (L.getD i pw0).1 x).1 * D.M + (D.nxt (L.getD i pw0).1 x).2]) := by
        intro m
        rw [show (run_tutorref07_search K0 (m + 1)).2 = s_tutorref07_search_12 (run_tutorref07_search K0 m).1 (run_tutorref07_search K0 m).2 K0 from rfl]
        unfold s_tutorref07_search_12
        rw [br_pos c, hrow, br_pos (by omega), Int.toNat_natCast, words_get]
        generalize hP : L.getD i pw0 = P at *
        obtain ⟨⟨p1, p2⟩, w⟩ := P
        dsimp only at hp i1 i2 hq hlen ⊢
        rw [join_eq (by
          show w.length + 1 ≤ 1000000000
          omega)]
        rw [wr (p1 * D.K) (by omega) (by omega), wr (p2 * D.K) (by omega) (by omega), wr (p1 * D.K + x) (by omega) (by omega), wr (p2 * D.K + x) (by omega) (by omega), wr ((x : Int) + 1) (by omega) (by omega)]
        rw [br_pos (by omega), br_pos (by omega)]
        rw [show l_tutorref07_now D.k D.K O D.N D.nx D.ou D.k D.K O' D.M D.nx' D.ou' p1 p2 x _ = _ from now_sy A B (p := (p1, p2)) hp hx' _]
        try dsimp only
        cases hsy : D.sy (p1, p2) x with
        | true => rw [br_tt, Bool.true_or, if_pos rfl]
        | false =>
        rw [br_ff, Bool.false_or]
        rw [show D.nx.getD (p1 * D.K + x).toNat 0 = (D.nxt (p1, p2) x).1 from rfl, show D.nx'.getD (p2 * D.K + x).toNat 0 = (D.nxt (p1, p2) x).2 from rfl]
        generalize hq' : D.nxt (p1, p2) x = q at *
        rw [now_st A B hq]
        try dsimp only
        cases hst : D.st q with
        | true => rw [br_tt, if_pos rfl]
        | false =>
        rw [br_ff, if_neg (by decide)]
        have i3 := pair_in hq
        have i4 : 0 ≤ q.1 * D.M := Int.mul_nonneg hq.1.1 (by have := B.fN; omega)
        have i5 := hq.2.1
        have hl := W.len
        rw [wr (q.1 * D.M) (by omega) (by omega), wr (q.1 * D.M + q.2) (by omega) (by omega), br_pos (by omega), W.get q hq]
        cases hkn : known L q with
        | true =>
          rw [show (!true) = false from rfl, br_ff, if_pos rfl]
          rfl
        | false =>
          rw [show (!false) = true from rfl, br_tt, if_neg (by decide), br_pos (by omega), br_pos (by
            show (L.length + 1) * 24 ≤ 140737488355328
            omega), hat, br_pos (by
            show (L.length + 1) * 8 ≤ 140737488355328
            omega)]
          rfl
      cases h1 : D.sy (L.getD i pw0).1 x || D.st (D.nxt (L.getD i pw0).1 x) with
      | true =>
        rw [h1, if_pos rfl] at h
        cases h
        exact .now fun m => by rw [key, h1, if_pos rfl]
      | false =>
        rw [h1, if_neg (by decide)] at h
        rw [Bool.or_eq_false_iff] at h1
        cases h2 : known L (D.nxt (L.getD i pw0).1 x) with
        | true =>
          rw [h2, if_pos rfl] at h
          exact .step (fun m => by rw [key, h1.1, h1.2, h2, Bool.or_false, if_neg (by decide), if_pos rfl]) (rsearch_run A B s K0 n i (x + 1) L kn r h I W hi (by omega))
        | false =>
          rw [h2, if_neg (by decide)] at h
          refine .step (fun m => by rw [key, h1.1, h1.2, h2, Bool.or_false, if_neg (by decide), if_neg (by decide)]) ?_
          have ih := rsearch_run A B s K0 n i (x + 1) _ _ r h (I.push F hi hx' h1.2 h2) (W.push hq _) (by simp; omega) (by omega)
          rw [List.map_append, List.map_append, getD_snoc, if_pos hi] at ih
          exact ih
    · rw [if_neg c] at h
      have key : ∀ m, (run_tutorref07_search K0 (m + 1)).2 i (L.getD i pw0).1.1 (L.getD i pw0).1.2 x D.k D.K O D.N D.nx D.ou D.k D.K O' D.M D.nx' D.ou' kn (L.map (·.2)) (L.map fun e => e.1.1 * D.M + e.1.2) =
          (run_tutorref07_search K0 m).1 ((i + 1 : Nat) : Int) D.k D.K O D.N D.nx D.ou D.k D.K O' D.M D.nx' D.ou' kn (L.map (·.2)) (L.map fun e => e.1.1 * D.M + e.1.2) := by
        intro m
        rw [show (run_tutorref07_search K0 (m + 1)).2 = s_tutorref07_search_12 (run_tutorref07_search K0 m).1 (run_tutorref07_search K0 m).2 K0 from rfl]
        unfold s_tutorref07_search_12
        rw [br_neg c, wr _ (by omega) (by omega)]
        rfl
      refine .step key ?_
      by_cases h3 : i + 1 < L.length
      · rw [if_pos h3] at h
        have hp2 := I.inn _ (getD_mem (d := pw0) h3)
        have hb := B.fN
        refine .step (fun m => ?_) (rsearch_run A B s K0 n (i + 1) 0 L kn r h I W h3 (by omega))
        rw [show (run_tutorref07_search K0 (m + 1)).1 = s_tutorref07_search_8 (run_tutorref07_search K0 m).1 (run_tutorref07_search K0 m).2 K0 from rfl]
        unfold s_tutorref07_search_8
        have hd := pair_div hp2.1.1 hp2.2
        have hN := A.fN
        rw [hrow, hat, br_pos (by omega), br_pos (by omega), br_neg (by omega), br_pos (by omega), br_neg (by omega), Int.toNat_natCast, ats_get D h3, hd.1, hd.2, wr _ (by have := hp2.1; omega) (by have := hp2.1; omega)]
        rfl
      · rw [if_neg h3] at h
        cases h
        refine .now fun m => ?_
        rw [show (run_tutorref07_search K0 (m + 1)).1 = s_tutorref07_search_8 (run_tutorref07_search K0 m).1 (run_tutorref07_search K0 m).2 K0 from rfl]
        unfold s_tutorref07_search_8
        rw [hrow, br_neg (by omega)]

theorem ok_tutorref07_search {R : Type} (a : Int) (a_1 : Int) (a_2 : Int) (a_3 : Int) (a_4 : List Int) (a_5 : List Int) (b : Int) (b_1 : Int) (b_2 : Int) (b_3 : Int) (b_4 : List Int) (b_5 : List Int) (s : Int) (t : Int) (K0 : Bool → (List Int) → Option R) {r : R} (h : l_tutorref07_search a a_1 a_2 a_3 a_4 a_5 b b_1 b_2 b_3 b_4 b_5 s t K0 = some r) : ∃ fuel, e_tutorref07_search (run_tutorref07_search K0 fuel).1 (run_tutorref07_search K0 fuel).2 K0 a a_1 a_2 a_3 a_4 a_5 b b_1 b_2 b_3 b_4 b_5 s t = some r := by
  unfold l_tutorref07_search at h
  rcases bi_some h with ⟨hs, h'⟩ | ⟨_, h'⟩
  · obtain ⟨h1, h2, rfl, rfl, h3, h4⟩ := of_decide_eq_true hs
    have A := checkR_fine.1 h1
    have B := checkR_fine.1 h2
    rw [← h']
    have hin : (⟨a, a_1, a_3, b_3, a_4, a_5, b_4, b_5⟩ : Duo).inn (s, t) := ⟨h3, h4⟩
    have e0 := now_st (R := R) (D := ⟨a, a_1, a_3, b_3, a_4, a_5, b_4, b_5⟩) (O := a_2) (O' := b_2) A B hin
    dsimp only at e0
    unfold e_tutorref07_search
    have F : (⟨a, a_1, a_3, b_3, a_4, a_5, b_4, b_5⟩ : Duo).Fine := ⟨⟨_, A⟩, ⟨_, B⟩⟩
    cases hst : Duo.st ⟨a, a_1, a_3, b_3, a_4, a_5, b_4, b_5⟩ (s, t) with
    | true =>
      refine ⟨0, ?_⟩
      rw [e0]
      try dsimp only
      rw [hst, br_tt]
      unfold searchS
      rw [if_pos hst]
      try rfl
    | false =>
      have hNM := mul_most A.fN B.fN
      have i1 := pair_in hin
      have i2 : 0 ≤ s * b_3 := Int.mul_nonneg h3.1 (by omega)
      dsimp only at i1
      have M0 : Marks ⟨a, a_1, a_3, b_3, a_4, a_5, b_4, b_5⟩ ((List.replicate (a_3 * b_3).toNat false).set (s * b_3 + t).toNat true) [((s, t), [])] := by
        have Z : Marks ⟨a, a_1, a_3, b_3, a_4, a_5, b_4, b_5⟩ (List.replicate (a_3 * b_3).toNat false) [] := by
          refine ⟨by simp, fun q _ => ?_⟩
          rw [List.getD_eq_getElem?_getD, List.getElem?_replicate]
          show (if _ then _ else _ : Option Bool).getD false = false
          split <;> rfl
        exact Z.push hin []
      obtain ⟨n, hn⟩ := (rsearch_run (D := ⟨a, a_1, a_3, b_3, a_4, a_5, b_4, b_5⟩) (O := a_2) (O' := b_2) A B (s, t) K0 _ 0 0 _ _ _ (searchS_run F hin hst) (Inv.start hin hst) M0 (by simp) (by omega)).get
      refine ⟨n + 1, ?_⟩
      rw [e0]
      try dsimp only
      rw [hst, br_ff, wr (a_3 * b_3) (by omega) (by omega), wr (s * b_3) (by omega) (by omega), wr (s * b_3 + t) (by omega) (by omega), br_pos (by omega), List.length_replicate, br_pos (by omega)]
      rw [show (run_tutorref07_search K0 (n + 1)).1 = s_tutorref07_search_8 (run_tutorref07_search K0 n).1 (run_tutorref07_search K0 n).2 K0 from rfl]
      unfold s_tutorref07_search_8
      have hd := pair_div h3.1 h4
      rw [br_pos (by simp), br_pos (by simp), br_neg (by omega), br_pos (by simp), br_neg (by omega)]
      rw [show [s * b_3 + t].getD (0 : Int).toNat 0 = s * b_3 + t from rfl, hd.1, hd.2, wr s (by have := A.fN; omega) (by have := A.fN; omega)]
      exact hn
  · cases h'

theorem rsearch_eq {R : Type} {D : Duo} {O O' : Int} (A : Fine D.k D.K O D.N D.nx D.ou) (B : Fine D.k D.K O' D.M D.nx' D.ou') {s : Int × Int} (hs : D.inn s) (K0 : Bool → List Int → Option R) :
    l_tutorref07_search D.k D.K O D.N D.nx D.ou D.k D.K O' D.M D.nx' D.ou' s.1 s.2 K0 = K0 (searchS D s).1 (searchS D s).2 := by
  unfold l_tutorref07_search
  rw [br_pos ⟨checkR_fine.2 A, checkR_fine.2 B, rfl, rfl, hs⟩]

abbrev LT_tutorref07_Separate := {R : Type} → Int → Int → Int → Int → (List Int) → (List Int) → Int → Int → Int → Int → (List Int) → (List Int) → (Bool → Int → (List Int) → Option R) → Option R
/-- tutor/tutorref07.Separate -/
def l_tutorref07_Separate {R : Type} (a a_1 a_2 a_3 : Int) (a_4 a_5 : List Int) (b b_1 b_2 b_3 : Int) (b_4 b_5 : List Int) (K0 : Bool → Int → (List Int) → Option R) : Option R :=
  l_tutorref03_Check a a_1 a_2 a_3 a_4 a_5
   (fun r1 r2 =>
    bi (r2 != 0)
     (K0 false r2 ([] : List Int))
     (l_tutorref03_Check b b_1 b_2 b_3 b_4 b_5
      (fun r3 r4 =>
       bi (r4 != 0)
        (K0 false r4 ([] : List Int))
        (bi (a != b)
         (K0 false 30 ([] : List Int))
         (bi (a_1 != b_1)
          (K0 false 1 ([] : List Int))
          (bi (a_2 != b_2)
           (K0 false 33 ([] : List Int))
           (l_tutorref07_search a a_1 a_2 a_3 a_4 a_5 b b_1 b_2 b_3 b_4 b_5 0 0
            (fun r5 r6 =>
             K0 r5 0 r6))))))))

theorem rsep_eq {R : Type} {k K O N : Int} {nx ou : List Int} {k' K' O' N' : Int} {nx' ou' : List Int} (h1 : okL nx) (h2 : okL ou) (h3 : okL nx') (h4 : okL ou') (K0 : Bool → Int → List Int → Option R) :
    l_tutorref07_Separate k K O N nx ou k' K' O' N' nx' ou' K0 = K0 (sepS k K O N nx ou k' K' O' N' nx' ou').1 (sepS k K O N nx ou k' K' O' N' nx' ou').2.1 (sepS k K O N nx ou k' K' O' N' nx' ou').2.2 := by
  unfold l_tutorref07_Separate l_tutorref03_Check
  rw [br_pos ⟨h1.1, h2.1⟩]
  try dsimp only
  by_cases c1 : (checkR k K O N nx ou).2 = 0
  · rw [br_ne' c1, br_pos ⟨h3.1, h4.1⟩]
    try dsimp only
    by_cases c2 : (checkR k' K' O' N' nx' ou').2 = 0
    · rw [br_ne' c2]
      by_cases c3 : k = k'
      · rw [br_ne' c3]
        by_cases c4 : K = K'
        · rw [br_ne' c4]
          by_cases c5 : O = O'
          · rw [br_ne' c5]
            have A := checkR_fine.1 c1
            have B := checkR_fine.1 c2
            have hc := (fitS_zero h1 h2 h3 h4).2 ⟨A, B, c3, c4, c5⟩
            unfold sepS
            rw [if_neg (by simpa using hc)]
            subst c3 c4 c5
            have := A.fN
            have := B.fN
            exact rsearch_eq (D := ⟨k, K, N, N', nx, ou, nx', ou'⟩) (s := (0, 0)) A B ⟨by dsimp only; omega, by dsimp only; omega⟩ _
          · rw [br_ne c5]
            unfold sepS fitS
            rw [checkS_eq h1 h2, checkS_eq h3 h4]
            subst c3 c4
            simp [c1, c2, c5]
        · rw [br_ne c4]
          unfold sepS fitS
          rw [checkS_eq h1 h2, checkS_eq h3 h4]
          subst c3
          simp [c1, c2, c4]
      · rw [br_ne c3]
        unfold sepS fitS
        rw [checkS_eq h1 h2, checkS_eq h3 h4]
        simp [c1, c2, c3]
    · rw [br_ne c2]
      unfold sepS fitS
      rw [checkS_eq h1 h2, checkS_eq h3 h4]
      simp [c1, c2]
  · rw [br_ne c1]
    unfold sepS fitS
    rw [checkS_eq h1 h2]
    simp [c1]

abbrev LT_tutorlaw21_num := {R : Type} → Int → (Int → Option R) → Option R
/-- tutor/tutorlaw21.num -/
def l_tutorlaw21_num {R : Type} (e : Int) (K0 : Int → Option R) : Option R :=
  K0 e

abbrev LT_tutorref01_Check := {R : Type} → (List Int) → Int → (Int → Int → Option R) → Option R
abbrev GT_tutorref01_Check_6 (R : Type) := (List Int) → Int → Int → Option R
/-- tutor/tutorref01.Check -/
def s_tutorref01_Check_6 {R : Type} (g28_6 : GT_tutorref01_Check_6 R) (K0 : Int → Int → Option R) (w : List Int) (k i : Int) : Option R :=
  bi (decide (i < (w.length : Int)))
   (bi (decide (0 ≤ i ∧ i < ((w.length : Nat) : Int)))
    (bi (decide ((w.getD i.toNat 0) < 0))
     (K0 i 10)
     (bi (decide (0 ≤ i ∧ i < ((w.length : Nat) : Int)))
      (bi (decide ((w.getD i.toNat 0) ≥ k))
       (K0 i 10)
       (g28_6 w k (IntKind.i64.wrap (i + 1))))
      none))
    none)
   (K0 0 0)

/-- tutor/tutorref01.Check -/
def e_tutorref01_Check {R : Type} (g28_6 : GT_tutorref01_Check_6 R) (K0 : Int → Int → Option R) (w : List Int) (k : Int) : Option R :=
  bi (decide (k < 1))
   (K0 0 1)
   (bi (decide (k > 64))
    (K0 0 1)
    (bi (decide ((w.length : Int) > 4096))
     (K0 0 2)
     (g28_6 w k 0)))

def run_tutorref01_Check {R : Type} (K0 : Int → Int → Option R) : Nat → (List Int) → Int → Int → Option R
  | 0 => fun _ _ _ => none
  | n + 1 => s_tutorref01_Check_6 (run_tutorref01_Check K0 n) K0

def l_tutorref01_Check {R : Type} (w : List Int) (k : Int) (K0 : Int → Int → Option R) : Option R := K0 (wordS k w).1 (wordS k w).2

theorem ok_tutorref01_Check {R : Type} (w : List Int) (k : Int) (K0 : Int → Int → Option R) {r : R} (h : l_tutorref01_Check w k K0 = some r) : ∃ fuel, e_tutorref01_Check (run_tutorref01_Check K0 fuel) K0 w k = some r := by
  refine ⟨w.length + 1, ?_⟩
  rw [← h]
  unfold l_tutorref01_Check e_tutorref01_Check wordS
  by_cases h1 : k < 1
  · rw [br_pos h1, if_pos (by omega)]
  rw [br_neg h1]
  by_cases h2 : k > 64
  · rw [br_pos h2, if_pos (by omega)]
  rw [br_neg h2, if_neg (by omega)]
  by_cases h3 : w.length > 4096
  · rw [br_pos (by omega), if_pos h3]
  rw [br_neg (by omega), if_neg h3]
  have key := scan_all (F := fun m i => run_tutorref01_Check K0 m w k (i : Int)) (outside k) (l := w) (A := fun i => K0 i 10) (B := K0 0 0)
    (fun m => by
      show s_tutorref01_Check_6 _ _ _ _ _ = _
      unfold s_tutorref01_Check_6
      rw [br_neg (by omega)])
    (fun m i hi => by
      show s_tutorref01_Check_6 _ _ _ _ _ = _
      unfold s_tutorref01_Check_6
      rw [br_pos (by omega), br_pos (by omega), br_pos (p := 0 ≤ (i : Int) ∧ (i : Int) < ((w.length : Nat) : Int)) (by omega), Int.toNat_natCast, getD_of 0 hi, wr _ (by omega) (by omega)]
      unfold outside
      cases decide (w[i] < 0) <;> cases decide (w[i] ≥ k) <;> rfl)
  refine key.trans ?_
  cases findP (outside k) w <;> rfl

abbrev LT_tutorref03_Go := {R : Type} → Int → Int → Int → Int → (List Int) → (List Int) → Int → (List Int) → (Int → (List Int) → Option R) → Option R
abbrev GT_tutorref03_Go_3 (R : Type) := Int → (List Int) → Int → Int → Int → Int → Int → (List Int) → (List Int) → (List Int) → Option R
/-- tutor/tutorref03.Go -/
def s_tutorref03_Go_3 {R : Type} (g56_3 : GT_tutorref03_Go_3 R) (K0 : Int → (List Int) → Option R) (s : Int) (w : List Int) (i o0 o0_1 o0_2 o0_3 : Int) (o0_4 o0_5 o1 : List Int) : Option R :=
  bi (decide (i < (w.length : Int)))
   (bi (o0 == 2)
    (bi (decide (0 ≤ i ∧ i < ((w.length : Nat) : Int)))
     (bi (decide (0 ≤ (IntKind.i64.wrap ((IntKind.i64.wrap (s * o0_1)) + (w.getD i.toNat 0))) ∧ (IntKind.i64.wrap ((IntKind.i64.wrap (s * o0_1)) + (w.getD i.toNat 0))) < ((o0_5.length : Nat) : Int)))
      (bi (decide ((o1.length + [o0_5.getD ((IntKind.i64.wrap ((IntKind.i64.wrap (s * o0_1)) + (w.getD i.toNat 0))).toNat) 0].length) * 8 ≤ lim))
       (bi (decide (0 ≤ i ∧ i < ((w.length : Nat) : Int)))
        (bi (decide (0 ≤ (IntKind.i64.wrap ((IntKind.i64.wrap (s * o0_1)) + (w.getD i.toNat 0))) ∧ (IntKind.i64.wrap ((IntKind.i64.wrap (s * o0_1)) + (w.getD i.toNat 0))) < ((o0_4.length : Nat) : Int)))
         (g56_3 (o0_4.getD ((IntKind.i64.wrap ((IntKind.i64.wrap (s * o0_1)) + (w.getD i.toNat 0))).toNat) 0) w (IntKind.i64.wrap (i + 1)) o0 o0_1 o0_2 o0_3 o0_4 o0_5 (o1 ++ [o0_5.getD ((IntKind.i64.wrap ((IntKind.i64.wrap (s * o0_1)) + (w.getD i.toNat 0))).toNat) 0]))
         none)
        none)
       none)
      none)
     none)
    (bi (decide (0 ≤ i ∧ i < ((w.length : Nat) : Int)))
     (bi (decide (0 ≤ (IntKind.i64.wrap ((IntKind.i64.wrap (s * o0_1)) + (w.getD i.toNat 0))) ∧ (IntKind.i64.wrap ((IntKind.i64.wrap (s * o0_1)) + (w.getD i.toNat 0))) < ((o0_4.length : Nat) : Int)))
      (g56_3 (o0_4.getD ((IntKind.i64.wrap ((IntKind.i64.wrap (s * o0_1)) + (w.getD i.toNat 0))).toNat) 0) w (IntKind.i64.wrap (i + 1)) o0 o0_1 o0_2 o0_3 o0_4 o0_5 o1)
      none)
     none))
   (bi (o0 == 1)
    (bi (decide (0 ≤ s ∧ s < ((o0_5.length : Nat) : Int)))
     (K0 s [o0_5.getD s.toNat 0])
     none)
    (K0 s o1))

/-- tutor/tutorref03.Go -/
def e_tutorref03_Go {R : Type} (g56_3 : GT_tutorref03_Go_3 R) (K0 : Int → (List Int) → Option R) (m m_1 m_2 m_3 : Int) (m_4 m_5 : List Int) (s : Int) (w : List Int) : Option R :=
  g56_3 s w 0 m m_1 m_2 m_3 m_4 m_5 ([] : List Int)

def run_tutorref03_Go {R : Type} (K0 : Int → (List Int) → Option R) : Nat → Int → (List Int) → Int → Int → Int → Int → Int → (List Int) → (List Int) → (List Int) → Option R
  | 0 => fun _ _ _ _ _ _ _ _ _ _ => none
  | n + 1 => s_tutorref03_Go_3 (run_tutorref03_Go K0 n) K0

def l_tutorref03_Go {R : Type} (k K O N : Int) (nx ou : List Int) (s : Int) (w : List Int) (K0 : Int → List Int → Option R) : Option R :=
  bi (decide ((checkR k K O N nx ou).2 = 0 ∧ (wordS K w).2 = 0 ∧ 0 ≤ s ∧ s < N)) (K0 (endS k K nx ou s w).1 (endS k K nx ou s w).2) none

theorem ok_tutorref03_Go {R : Type} (k K O N : Int) (nx ou : List Int) (s : Int) (w : List Int) (K0 : Int → List Int → Option R) {r : R} (h : l_tutorref03_Go k K O N nx ou s w K0 = some r) :
    ∃ fuel, e_tutorref03_Go (run_tutorref03_Go K0 fuel) K0 k K O N nx ou s w = some r := by
  unfold l_tutorref03_Go at h
  rcases bi_some h with ⟨hs, h⟩ | ⟨_, h⟩
  · obtain ⟨hc, hw, hs1, hs2⟩ := of_decide_eq_true hs
    have F := checkR_fine.1 hc
    refine ⟨w.length + 1, ?_⟩
    rw [← h]
    unfold e_tutorref03_Go
    obtain ⟨_, hwl, hwx⟩ := wordS_zero.1 hw
    have hK := F.fK
    have hN := F.fN
    have hNK := mulK ⟨hN, hK⟩
    have hnx := F.fnx
    refine (fold_all (F := fun m i (t : Int × List Int) => run_tutorref03_Go K0 m t.1 w (i : Int) k K O N nx ou t.2) (f := goS k K nx ou) (l := w)
      (B := fun t => K0 t.1 (if k = 1 then [ou.getD t.1.toNat 0] else t.2)) (fun i t => (0 ≤ t.1 ∧ t.1 < N) ∧ t.2.length ≤ i) ?_ ?_ (s, []) ⟨by omega, by simp⟩).trans ?_
    · intro m t ht
      show s_tutorref03_Go_3 _ _ _ _ _ _ _ _ _ _ _ _ = _
      unfold s_tutorref03_Go_3
      rw [br_neg (by omega)]
      by_cases hk : k = 1
      · have := F.fou1 hk
        rw [br_eq hk, br_pos (by omega), if_pos hk]
      · rw [br_eq' hk, if_neg hk]
    · intro m i t hi ht
      have hx := hwx _ (List.getElem_mem hi)
      have hin := idx_in ht.1 hx
      have hg : (if k = 2 then t.2 ++ [ou.getD (t.1 * K + w[i]).toNat 0] else t.2).length ≤ i + 1 := by
        split
        · simp; omega
        · omega
      refine ⟨⟨goS_in F ht.1 hx, hg⟩, ?_⟩
      show s_tutorref03_Go_3 (run_tutorref03_Go K0 m) _ _ _ _ _ _ _ _ _ _ _ = run_tutorref03_Go K0 m (nx.getD (t.1 * K + w[i]).toNat 0) w ((i + 1 : Nat) : Int) k K O N nx ou (if k = 2 then t.2 ++ [ou.getD (t.1 * K + w[i]).toNat 0] else t.2)
      unfold s_tutorref03_Go_3
      rw [br_pos (by omega), Int.toNat_natCast, getD_of 0 hi, wr (t.1 * K) (by omega) (by omega), wr (t.1 * K + w[i]) (by omega) (by omega), wr ((i : Int) + 1) (by omega) (by omega)]
      by_cases hk : k = 2
      · have := F.fou2 hk
        rw [br_eq hk, br_pos (by omega), br_pos (by omega), br_pos (by simp [lim]; omega), br_pos (by omega), br_pos (by omega), if_pos hk]
        rfl
      · rw [br_eq' hk, br_pos (by omega), br_pos (by omega), if_neg hk]
        rfl
    · unfold endS
      rfl
  · cases h

abbrev LT_tutorref03_From := {R : Type} → Int → Int → Int → Int → (List Int) → (List Int) → Int → (List Int) → (Int → Int → (List Int) → Option R) → Option R
/-- tutor/tutorref03.From -/
def l_tutorref03_From {R : Type} (m m_1 m_2 m_3 : Int) (m_4 m_5 : List Int) (s : Int) (w : List Int) (K0 : Int → Int → (List Int) → Option R) : Option R :=
  l_tutorref03_Check m m_1 m_2 m_3 m_4 m_5
   (fun r1 r2 =>
    bi (r2 != 0)
     (K0 0 r2 ([] : List Int))
     (bi (decide (s < 0))
      (K0 0 32 ([] : List Int))
      (bi (decide (s ≥ m_3))
       (K0 0 32 ([] : List Int))
       (l_tutorref01_Check w m_1
        (fun r3 r4 =>
         bi (r4 != 0)
          (K0 0 r4 ([] : List Int))
          (l_tutorref03_Go m m_1 m_2 m_3 m_4 m_5 s w
           (fun r5 r6 =>
            K0 r5 0 r6)))))))

theorem fromR_eq {R : Type} {k K O N : Int} {nx ou : List Int} {s : Int} {w : List Int} (h1 : short nx) (h2 : short ou) (K0 : Int → Int → List Int → Option R) :
    l_tutorref03_From k K O N nx ou s w K0 = K0 (fromS k K O N nx ou s w).1 (fromS k K O N nx ou s w).2.1 (fromS k K O N nx ou s w).2.2 := by
  unfold l_tutorref03_From fromS l_tutorref03_Check
  rw [br_pos ⟨h1, h2⟩]
  try dsimp only
  by_cases hc : (checkR k K O N nx ou).2 = 0
  · rw [br_ne' hc, if_neg (by simpa using hc)]
    by_cases hs1 : s < 0
    · rw [br_pos hs1, if_pos (.inl hs1)]
    rw [br_neg hs1]
    by_cases hs2 : s ≥ N
    · rw [br_pos hs2, if_pos (.inr hs2)]
    rw [br_neg hs2, if_neg (by omega)]
    unfold l_tutorref01_Check
    try dsimp only
    by_cases hw : (wordS K w).2 = 0
    · rw [br_ne' hw, if_neg (by simpa using hw)]
      unfold l_tutorref03_Go
      rw [br_pos ⟨hc, hw, by omega, by omega⟩]
    · rw [br_ne hw, if_pos (by simpa using hw)]
  · rw [br_ne hc, if_pos (by simpa using hc)]

abbrev LT_tutorref03_Run := {R : Type} → Int → Int → Int → Int → (List Int) → (List Int) → (List Int) → (Int → (List Int) → Option R) → Option R
/-- tutor/tutorref03.Run -/
def l_tutorref03_Run {R : Type} (m m_1 m_2 m_3 : Int) (m_4 m_5 w : List Int) (K0 : Int → (List Int) → Option R) : Option R :=
  l_tutorref03_From m m_1 m_2 m_3 m_4 m_5 0 w
   (fun r1 r2 r3 =>
    K0 r2 r3)

abbrev LT_tutorref01_Same := {R : Type} → (List Int) → (List Int) → (Bool → Option R) → Option R
abbrev GT_tutorref01_Same_4 (R : Type) := (List Int) → (List Int) → Int → Option R
/-- tutor/tutorref01.Same -/
def s_tutorref01_Same_4 {R : Type} (g16_4 : GT_tutorref01_Same_4 R) (K0 : Bool → Option R) (a b : List Int) (i : Int) : Option R :=
  bi (decide (i < (a.length : Int)))
   (bi (decide (0 ≤ i ∧ i < ((a.length : Nat) : Int)))
    (bi (decide (0 ≤ i ∧ i < ((b.length : Nat) : Int)))
     (bi ((a.getD i.toNat 0) != (b.getD i.toNat 0))
      (K0 false)
      (g16_4 a b (IntKind.i64.wrap (i + 1))))
     none)
    none)
   (K0 true)

/-- tutor/tutorref01.Same -/
def e_tutorref01_Same {R : Type} (g16_4 : GT_tutorref01_Same_4 R) (K0 : Bool → Option R) (a b : List Int) : Option R :=
  bi ((a.length : Int) != (b.length : Int))
   (K0 false)
   (g16_4 a b 0)

def run_tutorref01_Same {R : Type} (K0 : Bool → Option R) : Nat → (List Int) → (List Int) → Int → Option R
  | 0 => fun _ _ _ => none
  | n + 1 => s_tutorref01_Same_4 (run_tutorref01_Same K0 n) K0

def l_tutorref01_Same {R : Type} (a : List Int) (b : List Int) (K0 : Bool → Option R) : Option R := bi (decide (short a)) (K0 (decide (a = b))) none

theorem findP_zip {a b : List Int} (hl : a.length = b.length) : findP (fun i => a.getD i 0 != b.getD i 0) (List.range a.length) = none ↔ a = b := by
  rw [findP_none]
  constructor
  · intro h
    refine List.ext_getElem hl fun i h1 h2 => ?_
    have := h i (by simpa using h1)
    rw [getD_of 0 h1, getD_of 0 h2] at this
    simpa using this
  · rintro rfl i _
    simp

theorem ok_tutorref01_Same {R : Type} (a : List Int) (b : List Int) (K0 : Bool → Option R) {r : R} (h : l_tutorref01_Same a b K0 = some r) : ∃ fuel, e_tutorref01_Same (run_tutorref01_Same K0 fuel) K0 a b = some r := by
  unfold l_tutorref01_Same at h
  rcases bi_some h with ⟨hs, h⟩ | ⟨_, h⟩
  · have hs : a.length < 4611686018427387904 := of_decide_eq_true hs
    refine ⟨a.length + 1, ?_⟩
    rw [← h]
    unfold e_tutorref01_Same
    by_cases hl : a.length = b.length
    · rw [br_ne' (by omega)]
      have key := scan_all (F := fun m i => run_tutorref01_Same K0 m a b (i : Int)) (fun i => a.getD i 0 != b.getD i 0) (l := List.range a.length) (A := fun i => K0 false) (B := K0 true)
        (fun m => by
          show s_tutorref01_Same_4 _ _ _ _ _ = _
          unfold s_tutorref01_Same_4
          rw [List.length_range, br_neg (by omega)])
        (fun m i hi => by
          rw [List.length_range] at hi
          show s_tutorref01_Same_4 _ _ _ _ _ = _
          unfold s_tutorref01_Same_4
          rw [br_pos (by omega), br_pos (by omega), br_pos (by omega), br_if, Int.toNat_natCast, wr _ (by omega) (by omega), List.getElem_range]
          rfl)
      rw [List.length_range] at key
      refine key.trans ?_
      by_cases e : a = b
      · rw [(findP_zip hl).2 e]
        simp [e]
      · have : findP (fun i => a.getD i 0 != b.getD i 0) (List.range a.length) ≠ none := fun h => e ((findP_zip hl).1 h)
        cases hf : findP (fun i => a.getD i 0 != b.getD i 0) (List.range a.length) with
        | none => exact absurd hf this
        | some j => simp [e]
    · rw [br_ne (by omega)]
      have e : a ≠ b := fun e => hl (by rw [e])
      simp [e]
  · cases h

theorem same_eq {R : Type} {a b : List Int} (h : short a) (K0 : Bool → Option R) : l_tutorref01_Same a b K0 = K0 (decide (a = b)) := by
  unfold l_tutorref01_Same
  rw [br_pos h]

abbrev LT_tutorlaw21_WalkApart := {R : Type} → Int → Int → Int → Int → (List Int) → (List Int) → Int → Int → Int → Int → (List Int) → (List Int) → Int → Int → Int → (Bool → Option R) → Option R
/-- tutor/tutorlaw21.WalkApart -/
def l_tutorlaw21_WalkApart {R : Type} (a a_1 a_2 a_3 : Int) (a_4 a_5 : List Int) (b b_1 b_2 b_3 : Int) (b_4 b_5 : List Int) (seed count high : Int) (K0 : Bool → Option R) : Option R :=
  l_tutorref03_Big a a_1 a_2 a_3 a_4 a_5 30
   (fun r1 =>
    bi r1
     (l_tutorlaw21_live
      (fun r2 =>
       K0 r2))
     (l_tutorref03_Big b b_1 b_2 b_3 b_4 b_5 30
      (fun r3 =>
       bi r3
        (l_tutorlaw21_live
         (fun r4 =>
          K0 r4))
        (bi (decide (count > 100))
         (l_tutorlaw21_live
          (fun r5 =>
           K0 r5))
         (bi (decide (high > 60))
          (l_tutorlaw21_live
           (fun r6 =>
            K0 r6))
          (l_walk_Hunt a a_1 a_2 a_3 a_4 a_5 b b_1 b_2 b_3 b_4 b_5 seed count 0 high
           (fun r7 r8 r9 =>
            l_tutorref07_Separate a a_1 a_2 a_3 a_4 a_5 b b_1 b_2 b_3 b_4 b_5
             (fun r10 r11 r12 =>
              l_tutorlaw21_num r8
               (fun r13 =>
                bi (r13 != 0)
                 (bi ((r9.length : Int) == 0)
                  (bi (r7 == 0)
                   (l_tutorlaw21_live
                    (fun r14 =>
                     K0 r14))
                   (K0 false))
                  (K0 false))
                 (l_tutorref03_Run a a_1 a_2 a_3 a_4 a_5 r9
                  (fun r15 r16 =>
                   l_tutorref03_Run b b_1 b_2 b_3 b_4 b_5 r9
                    (fun r17 r18 =>
                     bi (r11 == 0)
                      (bi r10
                       (l_tutorref01_Same r16 r18
                        (fun r19 =>
                         bi (!r19)
                          (bi (decide ((r9.length : Int) ≤ high))
                           (bi (decide (r7 ≥ 1))
                            (bi (decide (r7 ≤ count))
                             (l_tutorlaw21_live
                              (fun r20 =>
                               K0 r20))
                             (K0 false))
                            (K0 false))
                           (K0 false))
                          (K0 false)))
                       (K0 false))
                      (K0 false)))))))))))))

theorem sepS_fitA {k K O N : Int} {nx ou : List Int} {k' K' O' N' : Int} {nx' ou' : List Int} (h1 : okL nx) (h2 : okL ou) (h3 : okL nx') (h4 : okL ou') (c : (sepS k K O N nx ou k' K' O' N' nx' ou').2.1 = 0) :
    (Fine k K O N nx ou ∧ Fine k' K' O' N' nx' ou' ∧ k = k' ∧ K = K' ∧ O = O') ∧ sepS k K O N nx ou k' K' O' N' nx' ou' = ((searchS ⟨k, K, N, N', nx, ou, nx', ou'⟩ (0, 0)).1, 0, (searchS ⟨k, K, N, N', nx, ou, nx', ou'⟩ (0, 0)).2) := by
  unfold sepS at c ⊢
  by_cases hc : fitS k K O N nx ou k' K' O' N' nx' ou' = 0
  · rw [if_neg (by simpa using hc)]
    exact ⟨(fitS_zero h1 h2 h3 h4).1 hc, rfl⟩
  · rw [if_pos (by simpa using hc)] at c
    exact absurd c hc

theorem huntS_cases {e : Int} {D : List Int → Bool} {k count low high seed : Int} :
    ((huntS e D k count low high seed).2.1 ≠ 0 ∧ (huntS e D k count low high seed).1 = 0 ∧ (huntS e D k count low high seed).2.2 = []) ∨
    ((huntS e D k count low high seed).2.1 = 0 ∧ e = 0 ∧ askS k count low high = 0 ∧ ∃ j, findP D (lotsS k low high count.toNat (seedS seed)) = some j ∧ (huntS e D k count low high seed).1 = ((j + 1 : Nat) : Int) ∧ (huntS e D k count low high seed).2.2 = (lotsS k low high count.toNat (seedS seed)).getD j []) := by
  unfold huntS
  by_cases h1 : e = 0
  · rw [if_neg (by simpa using h1)]
    by_cases h2 : askS k count low high = 0
    · rw [if_neg (by simpa using h2)]
      cases hf : findP D (lotsS k low high count.toNat (seedS seed)) with
      | none => exact .inl ⟨by simp, rfl, rfl⟩
      | some j => exact .inr ⟨rfl, h1, h2, j, rfl, rfl, rfl⟩
    · rw [if_pos (by simpa using h2)]
      exact .inl ⟨h2, rfl, rfl⟩
  · rw [if_pos (by simpa using h1)]
    exact .inl ⟨h1, rfl, rfl⟩

theorem law_tutorlaw21_WalkApart {R : Type} (k K O N : Int) (nx ou : List Int) (k' K' O' N' : Int) (nx' ou' : List Int) (seed count high : Int) (K0 : Bool → Option R) (hk : inI k) (hK : inI K) (hO : inI O) (hN : inI N) (hn : okW nx) (ho : okW ou)
    (hk' : inI k') (hK' : inI K') (hO' : inI O') (hN' : inI N') (hn' : okW nx') (ho' : okW ou') (hs : inU seed) (hc : inI count) (hh : inI high) :
    l_tutorlaw21_WalkApart k K O N nx ou k' K' O' N' nx' ou' seed count high K0 = K0 true := by
  unfold l_tutorlaw21_WalkApart
  rcases big_cases k K O N nx ou 30 _ with h | ⟨_, h1, h2, h⟩
  · rw [h, br_tt, live21]
  rw [h, br_ff]
  rcases big_cases k' K' O' N' nx' ou' 30 _ with h | ⟨_, h3, h4, h⟩
  · rw [h, br_tt, live21]
  rw [h, br_ff]
  have o1 : okL nx := hn.okL (by unfold short; omega)
  have o2 : okL ou := ho.okL (by unfold short; omega)
  have o3 : okL nx' := hn'.okL (by unfold short; omega)
  have o4 : okL ou' := ho'.okL (by unfold short; omega)
  have hin : inI K ∧ inI (0 : Int) ∧ inI high := ⟨hK, by unfold inI; omega, hh⟩
  by_cases c1 : count > 100
  · rw [br_pos c1, live21]
  rw [br_neg c1]
  by_cases c2 : high > 60
  · rw [br_pos c2, live21]
  rw [br_neg c2, hunt_eq o1 o2 o3 o4 hin]
  try dsimp only
  rw [rsep_eq o1 o2 o3 o4]
  unfold l_tutorlaw21_num
  try dsimp only
  rcases huntS_cases (e := (sepS k K O N nx ou k' K' O' N' nx' ou').2.1) (D := diffS k K O N nx ou k' K' O' N' nx' ou') (k := K) (count := count) (low := 0) (high := high) (seed := seed) with ⟨e1, e2, e3⟩ | ⟨e1, e2, e3, j, hj, e4, e5⟩
  · rw [br_ne e1, e2, e3, br_eq (show ((([] : List Int).length : Nat) : Int) = 0 from rfl), br_eq rfl, live21]
  · have hw := findP_some [] hj
    have hmem : (lotsS K 0 high count.toNat (seedS seed)).getD j [] ∈ lotsS K 0 high count.toNat (seedS seed) := by rw [getD_of [] hw.1]; exact List.getElem_mem _
    have hv := lotsS_in _ _ _ hmem
    have hl := lotsS_short _ _ _ hmem
    obtain ⟨a1, a2, a3⟩ := askS_zero e3
    have hhi := lotsS_high a1 _ _ _ hmem
    have hcl := lotsS_len K 0 high count.toNat (seedS seed)
    rw [br_ne' e1, e5, e4]
    generalize (lotsS K 0 high count.toNat (seedS seed)).getD j [] = w at *
    obtain ⟨⟨A, B, rfl, rfl, rfl⟩, e⟩ := sepS_fitA o1 o2 o3 o4 e2
    have hA := A.fN
    have hB := B.fN
    have FD : (⟨k, K, N, N', nx, ou, nx', ou'⟩ : Duo).Fine := ⟨⟨_, A⟩, ⟨_, B⟩⟩
    have hi0 : (⟨k, K, N, N', nx, ou, nx', ou'⟩ : Duo).inn (0, 0) := ⟨by dsimp only; omega, by dsimp only; omega⟩
    have hF := search_found FD hi0
    have hwS : (wordS K w).2 = 0 := wordS_zero.2 ⟨A.fK, hl, hv⟩
    have hne : (fromS k K O N nx ou 0 w).2.2 ≠ (fromS k K O N' nx' ou' 0 w).2.2 := by
      have := hw.2
      unfold diffS outW at this
      simpa using this
    have htel : (⟨k, K, N, N', nx, ou, nx', ou'⟩ : Duo).tel (0, 0) w = true := by
      rw [fromS_fine A (by omega) hwS, fromS_fine B (by omega) hwS] at hne
      cases ht : (⟨k, K, N, N', nx, ou, nx', ou'⟩ : Duo).tel (0, 0) w with
      | true => rfl
      | false => exact absurd ((end_tel (D := ⟨k, K, N, N', nx, ou, nx', ou'⟩) A.fk (0, 0) w).2 ht) hne
    have hap : (searchS ⟨k, K, N, N', nx, ou, nx', ou'⟩ (0, 0)).1 = true := by
      cases hr : (searchS ⟨k, K, N, N', nx, ou, nx', ou'⟩ (0, 0)).1 with
      | true => rfl
      | false =>
        have := (hF.no hr).2 w hv
        rw [htel] at this
        cases this
    rw [e]
    unfold l_tutorref03_Run
    rw [fromR_eq o1.1 o2.1]
    try dsimp only
    rw [fromR_eq o3.1 o4.1]
    try dsimp only
    rw [br_eq rfl, hap, br_tt, same_eq (by have := @from_short k K O N nx ou 0 w; unfold short; omega), decide_eq_false hne]
    try dsimp only
    rw [show (!false) = true from rfl, br_tt, br_pos hhi, br_pos (by omega), br_pos (by omega), live21]

end
end Go.Ev
