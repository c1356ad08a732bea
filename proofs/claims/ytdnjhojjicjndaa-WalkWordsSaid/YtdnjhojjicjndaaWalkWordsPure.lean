/- Functions of the program, as trees of tests over numbers and lists; no program in sight. -/
import Derived.Test.YtdnjhojjicjndaaEvMach
import Derived.Test.YtdnjhojjicjndaaEvWord
import Derived.Test.YtdnjhojjicjndaaEvWalk21
import Derived.Test.YtdnjhojjicjndaaEvTrip
import Derived.Test.YtdnjhojjicjndaaEvLots
namespace Go.Ev
noncomputable section
set_option linter.unusedVariables false
set_option linter.unusedSimpArgs false
set_option maxRecDepth 100000
set_option maxHeartbeats 4000000

abbrev LT_walk_New := {R : Type} → Int → (Int → Option R) → Option R
/-- tutor/walk.New -/
def l_walk_New {R : Type} (seed : Int) (K0 : Int → Option R) : Option R :=
  bi (seed == 0)
   (K0 88172645463325252)
   (K0 seed)

theorem new_eq {R : Type} (seed : Int) (K0 : Int → Option R) : l_walk_New seed K0 = K0 (if seed = 0 then 88172645463325252 else seed) := by
  unfold l_walk_New
  by_cases h : seed = 0
  · rw [br_eq h, if_pos h]
  · rw [br_eq' h, if_neg h]

abbrev LT_tutorref21_Int := {R : Type} → Int → Int → (Int → Int → Option R) → Option R
/-- tutor/tutorref21.Int -/
def l_tutorref21_Int {R : Type} (x n : Int) (K0 : Int → Int → Option R) : Option R :=
  bi (decide (n < 1))
   (K0 0 x)
   (bi (decide ((IntKind.u64.wrap n) = 0))
    none
    (K0 (IntKind.i64.wrap (((IntKind.u64.wrap ((IntKind.u64.wrap (BitVec.ofInt 64 (IntKind.u64.wrap (BitVec.ofInt 64 (IntKind.u64.wrap (BitVec.ofInt 64 x ^^^ BitVec.ofInt 64 (x.fdiv (2 ^ (min (12 : Int).toNat 64)))).toNat) ^^^ BitVec.ofInt 64 (IntKind.u64.wrap ((IntKind.u64.wrap (BitVec.ofInt 64 x ^^^ BitVec.ofInt 64 (x.fdiv (2 ^ (min (12 : Int).toNat 64)))).toNat) * 2 ^ (min (25 : Int).toNat 64)))).toNat) ^^^ BitVec.ofInt 64 ((IntKind.u64.wrap (BitVec.ofInt 64 (IntKind.u64.wrap (BitVec.ofInt 64 x ^^^ BitVec.ofInt 64 (x.fdiv (2 ^ (min (12 : Int).toNat 64)))).toNat) ^^^ BitVec.ofInt 64 (IntKind.u64.wrap ((IntKind.u64.wrap (BitVec.ofInt 64 x ^^^ BitVec.ofInt 64 (x.fdiv (2 ^ (min (12 : Int).toNat 64)))).toNat) * 2 ^ (min (25 : Int).toNat 64)))).toNat).fdiv (2 ^ (min (27 : Int).toNat 64)))).toNat) * 2685821657736338717)).fdiv (2 ^ (min (33 : Int).toNat 64))).tmod (IntKind.u64.wrap n))) (IntKind.u64.wrap (BitVec.ofInt 64 (IntKind.u64.wrap (BitVec.ofInt 64 (IntKind.u64.wrap (BitVec.ofInt 64 x ^^^ BitVec.ofInt 64 (x.fdiv (2 ^ (min (12 : Int).toNat 64)))).toNat) ^^^ BitVec.ofInt 64 (IntKind.u64.wrap ((IntKind.u64.wrap (BitVec.ofInt 64 x ^^^ BitVec.ofInt 64 (x.fdiv (2 ^ (min (12 : Int).toNat 64)))).toNat) * 2 ^ (min (25 : Int).toNat 64)))).toNat) ^^^ BitVec.ofInt 64 ((IntKind.u64.wrap (BitVec.ofInt 64 (IntKind.u64.wrap (BitVec.ofInt 64 x ^^^ BitVec.ofInt 64 (x.fdiv (2 ^ (min (12 : Int).toNat 64)))).toNat) ^^^ BitVec.ofInt 64 (IntKind.u64.wrap ((IntKind.u64.wrap (BitVec.ofInt 64 x ^^^ BitVec.ofInt 64 (x.fdiv (2 ^ (min (12 : Int).toNat 64)))).toNat) * 2 ^ (min (25 : Int).toNat 64)))).toNat).fdiv (2 ^ (min (27 : Int).toNat 64)))).toNat)))

theorem refInt_eq {R : Type} {n x : Int} (hn : inI n) (K0 : Int → Int → Option R) : l_tutorref21_Int x n K0 = K0 (intS n x).1 (intS n x).2 := by
  obtain ⟨_, h2⟩ := hn
  unfold l_tutorref21_Int intS
  by_cases h : n < 1
  · rw [br_pos h, if_pos h]
  · rw [br_neg h, if_neg h]
    rw [br_neg (by rw [wru, Int.emod_eq_of_lt (by omega) (by omega)]; omega)]
    rfl

abbrev LT_walk_source_draw := {R : Type} → Int → (Int → Int → Option R) → Option R
/-- (*tutor/walk.source).draw -/
def l_walk_source_draw {R : Type} (o0 : Int) (K0 : Int → Int → Option R) : Option R :=
  K0 ((IntKind.u64.wrap ((IntKind.u64.wrap (BitVec.ofInt 64 (IntKind.u64.wrap (BitVec.ofInt 64 (IntKind.u64.wrap (BitVec.ofInt 64 o0 ^^^ BitVec.ofInt 64 (o0.fdiv (2 ^ (min (12 : Int).toNat 64)))).toNat) ^^^ BitVec.ofInt 64 (IntKind.u64.wrap ((IntKind.u64.wrap (BitVec.ofInt 64 o0 ^^^ BitVec.ofInt 64 (o0.fdiv (2 ^ (min (12 : Int).toNat 64)))).toNat) * 2 ^ (min (25 : Int).toNat 64)))).toNat) ^^^ BitVec.ofInt 64 ((IntKind.u64.wrap (BitVec.ofInt 64 (IntKind.u64.wrap (BitVec.ofInt 64 o0 ^^^ BitVec.ofInt 64 (o0.fdiv (2 ^ (min (12 : Int).toNat 64)))).toNat) ^^^ BitVec.ofInt 64 (IntKind.u64.wrap ((IntKind.u64.wrap (BitVec.ofInt 64 o0 ^^^ BitVec.ofInt 64 (o0.fdiv (2 ^ (min (12 : Int).toNat 64)))).toNat) * 2 ^ (min (25 : Int).toNat 64)))).toNat).fdiv (2 ^ (min (27 : Int).toNat 64)))).toNat) * 2685821657736338717)).fdiv (2 ^ (min (33 : Int).toNat 64))) (IntKind.u64.wrap (BitVec.ofInt 64 (IntKind.u64.wrap (BitVec.ofInt 64 (IntKind.u64.wrap (BitVec.ofInt 64 o0 ^^^ BitVec.ofInt 64 (o0.fdiv (2 ^ (min (12 : Int).toNat 64)))).toNat) ^^^ BitVec.ofInt 64 (IntKind.u64.wrap ((IntKind.u64.wrap (BitVec.ofInt 64 o0 ^^^ BitVec.ofInt 64 (o0.fdiv (2 ^ (min (12 : Int).toNat 64)))).toNat) * 2 ^ (min (25 : Int).toNat 64)))).toNat) ^^^ BitVec.ofInt 64 ((IntKind.u64.wrap (BitVec.ofInt 64 (IntKind.u64.wrap (BitVec.ofInt 64 o0 ^^^ BitVec.ofInt 64 (o0.fdiv (2 ^ (min (12 : Int).toNat 64)))).toNat) ^^^ BitVec.ofInt 64 (IntKind.u64.wrap ((IntKind.u64.wrap (BitVec.ofInt 64 o0 ^^^ BitVec.ofInt 64 (o0.fdiv (2 ^ (min (12 : Int).toNat 64)))).toNat) * 2 ^ (min (25 : Int).toNat 64)))).toNat).fdiv (2 ^ (min (27 : Int).toNat 64)))).toNat)

abbrev LT_walk_Walk_Int := {R : Type} → Int → Int → (Int → Int → Option R) → Option R
/-- (*tutor/walk.Walk).Int -/
def l_walk_Walk_Int {R : Type} (n o0 : Int) (K0 : Int → Int → Option R) : Option R :=
  bi (decide (n < 1))
   (K0 0 o0)
   (l_walk_source_draw o0
    (fun r1 r2 =>
     bi (decide ((IntKind.u64.wrap n) = 0))
      none
      (K0 (IntKind.i64.wrap (r1.tmod (IntKind.u64.wrap n))) r2)))

theorem walkInt_eq {R : Type} {n x : Int} (hn : inI n) (K0 : Int → Int → Option R) : l_walk_Walk_Int n x K0 = K0 (intS n x).1 (intS n x).2 := by
  obtain ⟨_, h2⟩ := hn
  unfold l_walk_Walk_Int l_walk_source_draw intS
  by_cases h : n < 1
  · rw [br_pos h, if_pos h]
  · rw [br_neg h, if_neg h]
    dsimp only
    rw [br_neg (by rw [wru, Int.emod_eq_of_lt (by omega) (by omega)]; omega)]
    rfl

abbrev LT_tutorlaw21_live := {R : Type} → (Bool → Option R) → Option R
/-- tutor/tutorlaw21.live -/
def l_tutorlaw21_live {R : Type}  (K0 : Bool → Option R) : Option R :=
  l_walk_New 1
   (fun r1 =>
    l_tutorref21_Int 1 1000
     (fun r2 r3 =>
      l_tutorref21_Int r3 1000
       (fun r4 r5 =>
        l_walk_Walk_Int 1000 r1
         (fun r6 r7 =>
          bi (r6 == r2)
           (l_walk_Walk_Int 1000 r7
            (fun r8 r9 =>
             bi (r8 == r4)
              (K0 (r2 != r4))
              (K0 false)))
           (K0 false)))))

theorem live21 {R : Type} (K0 : Bool → Option R) : l_tutorlaw21_live K0 = K0 true := by
  unfold l_tutorlaw21_live l_walk_New
  rw [br_eq' (by decide)]
  dsimp only
  rw [refInt_eq (by decide)]
  try dsimp only
  rw [refInt_eq (by decide)]
  try dsimp only
  rw [walkInt_eq (by decide)]
  try dsimp only
  rw [br_eq rfl, walkInt_eq (by decide)]
  try dsimp only
  rw [br_eq rfl]
  have e : ((intS 1000 1).1 != (intS 1000 (intS 1000 1).2).1) = true := by kernel_rfl
  rw [e]

abbrev LT_walk_fit := {R : Type} → Int → Int → Int → (Int → Option R) → Option R
/-- tutor/walk.fit -/
def l_walk_fit {R : Type} (k low high : Int) (K0 : Int → Option R) : Option R :=
  bi (decide (k < 1))
   (K0 1)
   (bi (decide (k > 64))
    (K0 1)
    (bi (decide (low < 0))
     (K0 1)
     (bi (decide (high < low))
      (K0 1)
      (bi (decide (high > 4096))
       (K0 2)
       (K0 0)))))

theorem fitW_eq {R : Type} (k low high : Int) (K0 : Int → Option R) : l_walk_fit k low high K0 = K0 (fitW k low high) := by
  unfold l_walk_fit fitW
  simp only [br_if, decide_eq_true_eq]
  repeat' (refine ite_l (fun _ => ?_) (fun _ => ?_))
  all_goals
    refine congrArg K0 ?_
    repeat' (refine ite_r (fun _ => ?_) (fun _ => ?_))
    all_goals omega

abbrev LT_walk_asked := {R : Type} → Int → Int → Int → Int → (Int → Option R) → Option R
/-- tutor/walk.asked -/
def l_walk_asked {R : Type} (k count low high : Int) (K0 : Int → Option R) : Option R :=
  l_walk_fit k low high
   (fun r1 =>
    bi (r1 != 0)
     (K0 r1)
     (bi (decide (count < 0))
      (K0 1)
      (bi (decide (count > 65536))
       (K0 3)
       (K0 0))))

theorem asked_eq {R : Type} (k count low high : Int) (K0 : Int → Option R) : l_walk_asked k count low high K0 = K0 (askS k count low high) := by
  unfold l_walk_asked askS
  rw [fitW_eq]
  try dsimp only
  by_cases h : fitW k low high = 0
  · rw [br_ne' h, if_neg (by simpa using h)]
    simp only [br_if, decide_eq_true_eq]
    by_cases h1 : count < 0
    · rw [if_pos h1, if_pos h1]
    · rw [if_neg h1, if_neg h1]
      by_cases h2 : count > 65536
      · rw [if_pos h2, if_pos h2]
      · rw [if_neg h2, if_neg h2]
  · rw [br_ne h, if_pos (by simpa using h)]

abbrev LT_walk_drawn := {R : Type} → Int → Int → Int → Int → Int → (Int → Int → Int → Int → Int → Option R) → Option R
/-- tutor/walk.drawn -/
def l_walk_drawn {R : Type} (seed k count low high : Int) (K0 : Int → Int → Int → Int → Int → Option R) : Option R :=
  K0 seed count k low high

abbrev LT_walk_Walk_Word := {R : Type} → Int → Int → Int → Int → (Int → Int → (List Int) → Option R) → Option R
abbrev GT_walk_Walk_Word_8 (R : Type) := Int → Int → Int → Int → (List Int) → Option R
/-- (*tutor/walk.Walk).Word -/
def s_walk_Walk_Word_8 {R : Type} (g14_8 : GT_walk_Walk_Word_8 R) (K0 : Int → Int → (List Int) → Option R) (k x32 x33 o0 : Int) (o1 : List Int) : Option R :=
  bi (decide (x33 < x32))
   (l_walk_Walk_Int k o0
    (fun r4 r5 =>
     bi (decide (0 ≤ x33 ∧ x33 < ((o1.length : Nat) : Int)))
      (g14_8 k x32 (IntKind.i64.wrap (x33 + 1)) r5 (o1.set x33.toNat r4))
      none))
   (K0 0 o0 o1)

/-- (*tutor/walk.Walk).Word -/
def e_walk_Walk_Word {R : Type} (g14_8 : GT_walk_Walk_Word_8 R) (K0 : Int → Int → (List Int) → Option R) (k low high o0 : Int) : Option R :=
  l_walk_fit k low high
   (fun r1 =>
    bi (r1 != 0)
     (K0 r1 o0 ([] : List Int))
     (l_walk_Walk_Int (IntKind.i64.wrap ((IntKind.i64.wrap (high - low)) + 1)) o0
      (fun r2 r3 =>
       bi (decide (0 ≤ (IntKind.i64.wrap (low + r2)) ∧ (IntKind.i64.wrap (low + r2)) ≤ (IntKind.i64.wrap (low + r2)) ∧ (IntKind.i64.wrap (low + r2)) ≤ 1073741824))
        (g14_8 k ((List.replicate (IntKind.i64.wrap (low + r2)).toNat (0 : Int)).length : Int) 0 r3 (List.replicate (IntKind.i64.wrap (low + r2)).toNat (0 : Int)))
        none)))

def run_walk_Walk_Word {R : Type} (K0 : Int → Int → (List Int) → Option R) : Nat → Int → Int → Int → Int → (List Int) → Option R
  | 0 => fun _ _ _ _ _ => none
  | n + 1 => s_walk_Walk_Word_8 (run_walk_Walk_Word K0 n) K0

def l_walk_Walk_Word {R : Type} (k low high x : Int) (K0 : Int → Int → List Int → Option R) : Option R :=
  bi (decide (inI k ∧ inI low ∧ inI high)) (K0 (drawnS k low high x).1 (drawnS k low high x).2.2 (drawnS k low high x).2.1) none

theorem ok_walk_Walk_Word {R : Type} (k low high x : Int) (K0 : Int → Int → List Int → Option R) {r : R} (h : l_walk_Walk_Word k low high x K0 = some r) : ∃ fuel, e_walk_Walk_Word (run_walk_Walk_Word K0 fuel) K0 k low high x = some r := by
  unfold l_walk_Walk_Word at h
  rcases bi_some h with ⟨hs, h⟩ | ⟨_, h⟩
  · obtain ⟨hk, hlo, hhi⟩ := of_decide_eq_true hs
    refine ⟨lenS low high x + 1, ?_⟩
    rw [← h]
    unfold e_walk_Walk_Word drawnS
    rw [fitW_eq]
    by_cases hf : fitW k low high = 0
    · obtain ⟨hk1, hf1⟩ := fitW_zero hf
      rw [br_ne' hf, if_neg (by simpa using hf), wr (high - low) (by omega) (by omega), wr (high - low + 1) (by omega) (by omega), walkInt_eq ⟨by omega, by omega⟩]
      obtain ⟨e1, e2⟩ := lenS_in (x := x) hf1
      try dsimp only
      rw [wr (low + (intS (high - low + 1) x).1) (by omega) (by omega), e1, br_pos (by omega), Int.toNat_natCast, List.length_replicate]
      -- place by place
      have key : ∀ (m i : Nat) (l : List Int), i + m = lenS low high x → l = (drawsS k i (intS (high - low + 1) x).2).1 ++ List.replicate m 0 →
          run_walk_Walk_Word K0 (m + 1) k (lenS low high x : Int) (i : Int) (drawsS k i (intS (high - low + 1) x).2).2 l = K0 0 (wordD k low high x).2 (wordD k low high x).1 := by
        intro m
        induction m with
        | zero =>
          intro i l hi hl
          show s_walk_Walk_Word_8 _ _ _ _ _ _ _ = _
          unfold s_walk_Walk_Word_8
          rw [br_neg (by omega), hl]
          unfold wordD
          rw [← hi]
          simp
        | succ m ih =>
          intro i l hi hl
          show s_walk_Walk_Word_8 (run_walk_Walk_Word K0 (m + 1)) _ _ _ _ _ _ = _
          unfold s_walk_Walk_Word_8
          have hlen : l.length = i + (m + 1) := by rw [hl]; simp [drawsS_len]
          rw [br_pos (by omega), walkInt_eq hk]
          try dsimp only
          rw [br_pos (by omega), wr _ (by omega) (by omega), Int.toNat_natCast]
          refine ih (i + 1) _ (by omega) ?_
          rw [hl, List.set_append_right _ _ (by rw [drawsS_len]; omega), drawsS_len]
          simp [drawsS, List.replicate_succ]
      exact key (lenS low high x) 0 _ (by omega) (by simp [drawsS])
    · rw [br_ne hf, if_pos (by simpa using hf)]
  · cases h
theorem walkWord_eq {R : Type} {k low high x : Int} (h : inI k ∧ inI low ∧ inI high) (K0 : Int → Int → List Int → Option R) :
    l_walk_Walk_Word k low high x K0 = K0 (drawnS k low high x).1 (drawnS k low high x).2.2 (drawnS k low high x).2.1 := by
  unfold l_walk_Walk_Word
  rw [br_pos h]

abbrev LT_round_of_slices_AppendSeq_int_int := {R : Type} → (List (List Int)) → (List Int) → ((List (List Int)) → Option R) → Option R
/-- round of slices.AppendSeq[[][]int,[]int] -/
def l_round_of_slices_AppendSeq_int_int {R : Type} (o2 : List (List Int)) (o3 : List Int) (K0 : (List (List Int)) → Option R) : Option R :=
  bi (decide ((o2.length + [o3].length) * 24 ≤ lim))
   (K0 (o2 ++ [o3]))
   none

abbrev LT_walk_drawn_1_yslices_AppendSeq_int_int := {R : Type} → (List (List Int)) → Int → Int → Int → Int → Int → ((List (List Int)) → Int → Int → Int → Int → Int → Option R) → (Int → Int → Int → Int → Int → (List (List Int)) → Option R) → Option R
abbrev GT_walk_drawn_1_yslices_AppendSeq_int_int_2a (R : Type) := Int → Int → (List (List Int)) → Int → Int → Int → Int → Int → Int → Option R
abbrev GT_walk_drawn_1_yslices_AppendSeq_int_int_2b (R : Type) := Int → Int → Int → Int → Int → Int → Int → (List (List Int)) → Int → Option R
/-- tutor/walk.drawn$1 -/
def s_walk_drawn_1_yslices_AppendSeq_int_int_2a {R : Type} (g48_2 : GT_walk_drawn_1_yslices_AppendSeq_int_int_2a R) (g48_2b : GT_walk_drawn_1_yslices_AppendSeq_int_int_2b R) (K0 : (List (List Int)) → Int → Int → Int → Int → Int → Option R) (K1 : Int → Int → Int → Int → Int → (List (List Int)) → Option R) (x12 x13 : Int) (o2 : List (List Int)) (o3 o4 o5 o6 o7 o8 : Int) : Option R :=
  bi (decide (x13 < x12))
   (l_walk_Walk_Word o5 o6 o7 o8
    (fun r2 r3 r4 =>
     l_round_of_slices_AppendSeq_int_int o2 r4
      (fun r5 =>
       g48_2b x12 (IntKind.i64.wrap (x13 + 1)) o3 o4 o5 o6 o7 r5 r3)))
   (K0 o2 o3 o4 o5 o6 o7)

/-- tutor/walk.drawn$1 -/
def s_walk_drawn_1_yslices_AppendSeq_int_int_2b {R : Type} (g48_2 : GT_walk_drawn_1_yslices_AppendSeq_int_int_2a R) (g48_2b : GT_walk_drawn_1_yslices_AppendSeq_int_int_2b R) (K0 : (List (List Int)) → Int → Int → Int → Int → Int → Option R) (K1 : Int → Int → Int → Int → Int → (List (List Int)) → Option R) (x12 x13 o3 o4 o5 o6 o7 : Int) (o8 : List (List Int)) (o9 : Int) : Option R :=
  bi (decide (x13 < x12))
   (l_walk_Walk_Word o5 o6 o7 o9
    (fun r6 r7 r8 =>
     l_round_of_slices_AppendSeq_int_int o8 r8
      (fun r9 =>
       g48_2b x12 (IntKind.i64.wrap (x13 + 1)) o3 o4 o5 o6 o7 r9 r7)))
   (K1 o3 o4 o5 o6 o7 o8)

/-- tutor/walk.drawn$1 -/
def e_walk_drawn_1_yslices_AppendSeq_int_int {R : Type} (g48_2 : GT_walk_drawn_1_yslices_AppendSeq_int_int_2a R) (g48_2b : GT_walk_drawn_1_yslices_AppendSeq_int_int_2b R) (K0 : (List (List Int)) → Int → Int → Int → Int → Int → Option R) (K1 : Int → Int → Int → Int → Int → (List (List Int)) → Option R) (o2 : List (List Int)) (o3 o4 o5 o6 o7 : Int) : Option R :=
  l_walk_New o3
   (fun r1 =>
    g48_2 o4 0 o2 o3 o4 o5 o6 o7 r1)

def run_walk_drawn_1_yslices_AppendSeq_int_int {R : Type} (K0 : (List (List Int)) → Int → Int → Int → Int → Int → Option R) (K1 : Int → Int → Int → Int → Int → (List (List Int)) → Option R) : Nat → (Int → Int → (List (List Int)) → Int → Int → Int → Int → Int → Int → Option R) × (Int → Int → Int → Int → Int → Int → Int → (List (List Int)) → Int → Option R)
  | 0 => (fun _ _ _ _ _ _ _ _ _ => none, fun _ _ _ _ _ _ _ _ _ => none)
  | n + 1 => (s_walk_drawn_1_yslices_AppendSeq_int_int_2a (run_walk_drawn_1_yslices_AppendSeq_int_int K0 K1 n).1 (run_walk_drawn_1_yslices_AppendSeq_int_int K0 K1 n).2 K0 K1, s_walk_drawn_1_yslices_AppendSeq_int_int_2b (run_walk_drawn_1_yslices_AppendSeq_int_int K0 K1 n).1 (run_walk_drawn_1_yslices_AppendSeq_int_int K0 K1 n).2 K0 K1)

def l_walk_drawn_1_yslices_AppendSeq_int_int {R : Type} (o2 : List (List Int)) (o3 o4 o5 o6 o7 : Int) (K0 : (List (List Int)) → Int → Int → Int → Int → Int → Option R) (K1 : Int → Int → Int → Int → Int → (List (List Int)) → Option R) : Option R := evl fun fuel => e_walk_drawn_1_yslices_AppendSeq_int_int (run_walk_drawn_1_yslices_AppendSeq_int_int K0 K1 fuel).1 (run_walk_drawn_1_yslices_AppendSeq_int_int K0 K1 fuel).2 K0 K1 o2 o3 o4 o5 o6 o7

theorem ok_walk_drawn_1_yslices_AppendSeq_int_int {R : Type} (o2 : List (List Int)) (o3 o4 o5 o6 o7 : Int) (K0 : (List (List Int)) → Int → Int → Int → Int → Int → Option R) (K1 : Int → Int → Int → Int → Int → (List (List Int)) → Option R) {r : R} (h : l_walk_drawn_1_yslices_AppendSeq_int_int o2 o3 o4 o5 o6 o7 K0 K1 = some r) : ∃ fuel, e_walk_drawn_1_yslices_AppendSeq_int_int (run_walk_drawn_1_yslices_AppendSeq_int_int K0 K1 fuel).1 (run_walk_drawn_1_yslices_AppendSeq_int_int K0 K1 fuel).2 K0 K1 o2 o3 o4 o5 o6 o7 = some r := evl_ok h

theorem st_walk_drawn_1_yslices_AppendSeq_int_int_2a {R : Type} (K0 : (List (List Int)) → Int → Int → Int → Int → Int → Option R) (K1 : Int → Int → Int → Int → Int → (List (List Int)) → Option R) (fuel : Nat) (x12 x13 : Int) (o2 : List (List Int)) (o3 o4 o5 o6 o7 o8 : Int) : (run_walk_drawn_1_yslices_AppendSeq_int_int K0 K1 (fuel + 1)).1 x12 x13 o2 o3 o4 o5 o6 o7 o8 = s_walk_drawn_1_yslices_AppendSeq_int_int_2a (run_walk_drawn_1_yslices_AppendSeq_int_int K0 K1 fuel).1 (run_walk_drawn_1_yslices_AppendSeq_int_int K0 K1 fuel).2 K0 K1 x12 x13 o2 o3 o4 o5 o6 o7 o8 := rfl

theorem st_walk_drawn_1_yslices_AppendSeq_int_int_2b {R : Type} (K0 : (List (List Int)) → Int → Int → Int → Int → Int → Option R) (K1 : Int → Int → Int → Int → Int → (List (List Int)) → Option R) (fuel : Nat) (x12 x13 o3 o4 o5 o6 o7 : Int) (o8 : List (List Int)) (o9 : Int) : (run_walk_drawn_1_yslices_AppendSeq_int_int K0 K1 (fuel + 1)).2 x12 x13 o3 o4 o5 o6 o7 o8 o9 = s_walk_drawn_1_yslices_AppendSeq_int_int_2b (run_walk_drawn_1_yslices_AppendSeq_int_int K0 K1 fuel).1 (run_walk_drawn_1_yslices_AppendSeq_int_int K0 K1 fuel).2 K0 K1 x12 x13 o3 o4 o5 o6 o7 o8 o9 := rfl

theorem drawnA_go {R : Type} {k low high seed cnt : Int} (hin : inI k ∧ inI low ∧ inI high) (hc : cnt ≤ 65536) (K0 : (List (List Int)) → Int → Int → Int → Int → Int → Option R) (K1 : Int → Int → Int → Int → Int → (List (List Int)) → Option R) :
    ∀ (d i : Nat) (acc : List (List Int)) (x : Int), ((i + d : Nat) : Int) = cnt → acc.length = i →
      Reach (fun m => (run_walk_drawn_1_yslices_AppendSeq_int_int K0 K1 m).2 cnt i seed cnt k low high acc x) (K1 seed cnt k low high (acc ++ lotsS k low high d x)) := by
  intro d
  induction d with
  | zero =>
    intro i acc x hi ha
    refine .now fun m => ?_
    try dsimp only
    rw [st_walk_drawn_1_yslices_AppendSeq_int_int_2b]
    unfold s_walk_drawn_1_yslices_AppendSeq_int_int_2b
    rw [br_neg (by omega)]
    simp [lotsS]
  | succ d ih =>
    intro i acc x hi ha
    refine .step (fun m => ?_) ((ih (i + 1) (acc ++ [(drawnS k low high x).2.1]) (drawnS k low high x).2.2 (by omega) (by simp [ha])).of_eq (by simp [lotsS]))
    try dsimp only
    rw [st_walk_drawn_1_yslices_AppendSeq_int_int_2b]
    unfold s_walk_drawn_1_yslices_AppendSeq_int_int_2b l_round_of_slices_AppendSeq_int_int
    rw [br_pos (by omega), walkWord_eq hin]
    try dsimp only
    rw [br_pos (by rw [ha]; simp [lim]; omega), wr _ (by omega) (by omega)]
    rfl

theorem drawnA_eq {R : Type} {k low high seed cnt : Int} (hin : inI k ∧ inI low ∧ inI high) (hc : cnt ≤ 65536) (K0 : (List (List Int)) → Int → Int → Int → Int → Int → Option R) (K1 : Int → Int → Int → Int → Int → (List (List Int)) → Option R) :
    l_walk_drawn_1_yslices_AppendSeq_int_int [] seed cnt k low high K0 K1 = if cnt < 1 then K0 [] seed cnt k low high else K1 seed cnt k low high (lotsS k low high cnt.toNat (seedS seed)) := by
  unfold l_walk_drawn_1_yslices_AppendSeq_int_int
  refine evl_eq ?_
  by_cases h : cnt < 1
  · rw [if_pos h]
    refine .now fun m => ?_
    unfold e_walk_drawn_1_yslices_AppendSeq_int_int
    rw [new_eq]
    try dsimp only
    rw [st_walk_drawn_1_yslices_AppendSeq_int_int_2a]
    unfold s_walk_drawn_1_yslices_AppendSeq_int_int_2a
    rw [br_neg (by omega)]
  · rw [if_neg h]
    have := drawnA_go (seed := seed) hin hc K0 K1 (cnt.toNat - 1) 1 [(drawnS k low high (seedS seed)).2.1] (drawnS k low high (seedS seed)).2.2 (by omega) rfl
    refine .step (fun m => ?_) (this.of_eq ?_)
    · unfold e_walk_drawn_1_yslices_AppendSeq_int_int
      rw [new_eq]
      try dsimp only
      rw [st_walk_drawn_1_yslices_AppendSeq_int_int_2a]
      unfold s_walk_drawn_1_yslices_AppendSeq_int_int_2a l_round_of_slices_AppendSeq_int_int
      rw [br_pos (by omega), walkWord_eq hin]
      try dsimp only
      rw [br_pos (by simp [lim]), wr _ (by omega) (by omega)]
      rfl
    · have e : cnt.toNat = (cnt.toNat - 1) + 1 := by omega
      rw [e]
      rfl

abbrev LT_slices_AppendSeq_int_int_fwalk_drawn_1 := {R : Type} → Int → Int → Int → Int → Int → (Int → Int → Int → Int → Int → (List (List Int)) → Option R) → (Int → Int → Int → Int → Int → (List (List Int)) → Option R) → Option R
/-- slices.AppendSeq[[][]int,[]int] -/
def l_slices_AppendSeq_int_int_fwalk_drawn_1 {R : Type} (o0 o1 o2 o3 o4 : Int) (K0 : Int → Int → Int → Int → Int → (List (List Int)) → Option R) (K1 : Int → Int → Int → Int → Int → (List (List Int)) → Option R) : Option R :=
  l_walk_drawn_1_yslices_AppendSeq_int_int ([] : List (List Int)) o0 o1 o2 o3 o4
   (fun r1 r2 r3 r4 r5 r6 =>
    K0 r2 r3 r4 r5 r6 r1)
   (fun r7 r8 r9 r10 r11 r12 =>
    K1 r7 r8 r9 r10 r11 r12)

abbrev LT_slices_Collect_int_fwalk_drawn_1 := {R : Type} → Int → Int → Int → Int → Int → (Int → Int → Int → Int → Int → (List (List Int)) → Option R) → (Int → Int → Int → Int → Int → (List (List Int)) → Option R) → Option R
/-- slices.Collect[[]int] -/
def l_slices_Collect_int_fwalk_drawn_1 {R : Type} (o0 o1 o2 o3 o4 : Int) (K0 : Int → Int → Int → Int → Int → (List (List Int)) → Option R) (K1 : Int → Int → Int → Int → Int → (List (List Int)) → Option R) : Option R :=
  l_slices_AppendSeq_int_int_fwalk_drawn_1 o0 o1 o2 o3 o4
   (fun r1 r2 r3 r4 r5 r6 =>
    K0 r1 r2 r3 r4 r5 r6)
   (fun r7 r8 r9 r10 r11 r12 =>
    K1 r7 r8 r9 r10 r11 r12)

abbrev LT_walk_Words := {R : Type} → Int → Int → Int → Int → Int → (Int → (List (List Int)) → Option R) → (Int → (List (List Int)) → Option R) → Option R
/-- tutor/walk.Words -/
def l_walk_Words {R : Type} (seed k count low high : Int) (K0 : Int → (List (List Int)) → Option R) (K1 : Int → (List (List Int)) → Option R) : Option R :=
  l_walk_asked k count low high
   (fun r1 =>
    bi (r1 != 0)
     (K0 r1 ([] : List (List Int)))
     (l_walk_drawn seed k count low high
      (fun r2 r3 r4 r5 r6 =>
       l_slices_Collect_int_fwalk_drawn_1 r2 r3 r4 r5 r6
        (fun r7 r8 r9 r10 r11 r12 =>
         K0 0 r12)
        (fun r13 r14 r15 r16 r17 r18 =>
         K1 0 r18))))

theorem words_eq {R : Type} {seed k count low high : Int} (hin : inI k ∧ inI low ∧ inI high) (K0 K1 : Int → (List (List Int)) → Option R) :
    l_walk_Words seed k count low high K0 K1 = if askS k count low high ≠ 0 then K0 (askS k count low high) [] else if count < 1 then K0 0 [] else K1 0 (lotsS k low high count.toNat (seedS seed)) := by
  unfold l_walk_Words
  rw [asked_eq]
  try dsimp only
  by_cases h : askS k count low high = 0
  · rw [br_ne' h, if_neg (by simpa using h)]
    unfold l_walk_drawn l_slices_Collect_int_fwalk_drawn_1 l_slices_AppendSeq_int_int_fwalk_drawn_1
    try dsimp only
    rw [drawnA_eq hin (askS_zero h).2.2]
  · rw [br_ne h, if_pos (by simpa using h)]

abbrev LT_tutorref21_fit := {R : Type} → Int → Int → Int → (Int → Option R) → Option R
/-- tutor/tutorref21.fit -/
def l_tutorref21_fit {R : Type} (k low high : Int) (K0 : Int → Option R) : Option R :=
  bi (decide (k < 1))
   (K0 1)
   (bi (decide (k > 64))
    (K0 1)
    (bi (decide (low < 0))
     (K0 1)
     (bi (decide (high < low))
      (K0 1)
      (bi (decide (high > 4096))
       (K0 2)
       (K0 0)))))

theorem fitWR_eq {R : Type} (k low high : Int) (K0 : Int → Option R) : l_tutorref21_fit k low high K0 = K0 (fitW k low high) := by
  unfold l_tutorref21_fit fitW
  simp only [br_if, decide_eq_true_eq]
  repeat' (refine ite_l (fun _ => ?_) (fun _ => ?_))
  all_goals
    refine congrArg K0 ?_
    repeat' (refine ite_r (fun _ => ?_) (fun _ => ?_))
    all_goals omega

abbrev LT_tutorref21_Start := {R : Type} → Int → (Int → Option R) → Option R
/-- tutor/tutorref21.Start -/
def l_tutorref21_Start {R : Type} (seed : Int) (K0 : Int → Option R) : Option R :=
  bi (seed == 0)
   (K0 88172645463325252)
   (K0 seed)

abbrev LT_tutorref21_Word := {R : Type} → Int → Int → Int → Int → (Int → Int → (List Int) → Option R) → Option R
abbrev GT_tutorref21_Word_7 (R : Type) := Int → Int → Int → Int → Int → (List Int) → Option R
/-- tutor/tutorref21.Word -/
def s_tutorref21_Word_7 {R : Type} (g15_7 : GT_tutorref21_Word_7 R) (K0 : Int → Int → (List Int) → Option R) (x k low n i : Int) (o0 : List Int) : Option R :=
  bi (decide (i < (IntKind.i64.wrap (low + n))))
   (l_tutorref21_Int x k
    (fun r4 r5 =>
     bi (decide ((o0.length + [r4].length) * 8 ≤ lim))
      (g15_7 r5 k low n (IntKind.i64.wrap (i + 1)) (o0 ++ [r4]))
      none))
   (K0 x 0 o0)

/-- tutor/tutorref21.Word -/
def e_tutorref21_Word {R : Type} (g15_7 : GT_tutorref21_Word_7 R) (K0 : Int → Int → (List Int) → Option R) (x k low high : Int) : Option R :=
  l_tutorref21_fit k low high
   (fun r1 =>
    bi (r1 != 0)
     (K0 x r1 ([] : List Int))
     (l_tutorref21_Int x (IntKind.i64.wrap ((IntKind.i64.wrap (high - low)) + 1))
      (fun r2 r3 =>
       g15_7 r3 k low r2 0 ([] : List Int))))

def run_tutorref21_Word {R : Type} (K0 : Int → Int → (List Int) → Option R) : Nat → Int → Int → Int → Int → Int → (List Int) → Option R
  | 0 => fun _ _ _ _ _ _ => none
  | n + 1 => s_tutorref21_Word_7 (run_tutorref21_Word K0 n) K0

def l_tutorref21_Word {R : Type} (x k low high : Int) (K0 : Int → Int → List Int → Option R) : Option R :=
  bi (decide (inI k ∧ inI low ∧ inI high)) (K0 (drawnS k low high x).2.2 (drawnS k low high x).1 (drawnS k low high x).2.1) none

theorem ok_tutorref21_Word {R : Type} (x k low high : Int) (K0 : Int → Int → List Int → Option R) {r : R} (h : l_tutorref21_Word x k low high K0 = some r) : ∃ fuel, e_tutorref21_Word (run_tutorref21_Word K0 fuel) K0 x k low high = some r := by
  unfold l_tutorref21_Word at h
  rcases bi_some h with ⟨hs, h⟩ | ⟨_, h⟩
  · obtain ⟨hk, hlo, hhi⟩ := of_decide_eq_true hs
    refine ⟨lenS low high x + 1, ?_⟩
    rw [← h]
    unfold e_tutorref21_Word drawnS
    rw [fitWR_eq]
    by_cases hf : fitW k low high = 0
    · obtain ⟨hk1, hf1⟩ := fitW_zero hf
      rw [br_ne' hf, if_neg (by simpa using hf), wr (high - low) (by omega) (by omega), wr (high - low + 1) (by omega) (by omega), refInt_eq ⟨by omega, by omega⟩]
      obtain ⟨e1, e2⟩ := lenS_in (x := x) hf1
      try dsimp only
      have key : ∀ (m i : Nat), i + m = lenS low high x →
          run_tutorref21_Word K0 (m + 1) (drawsS k i (intS (high - low + 1) x).2).2 k low (intS (high - low + 1) x).1 (i : Int) (drawsS k i (intS (high - low + 1) x).2).1 = K0 (wordD k low high x).2 0 (wordD k low high x).1 := by
        intro m
        induction m with
        | zero =>
          intro i hi
          show s_tutorref21_Word_7 _ _ _ _ _ _ _ _ = _
          unfold s_tutorref21_Word_7
          rw [wr (low + (intS (high - low + 1) x).1) (by omega) (by omega), e1, br_neg (by omega)]
          unfold wordD
          rw [← hi]
          simp
        | succ m ih =>
          intro i hi
          show s_tutorref21_Word_7 (run_tutorref21_Word K0 (m + 1)) _ _ _ _ _ _ _ = _
          unfold s_tutorref21_Word_7
          rw [wr (low + (intS (high - low + 1) x).1) (by omega) (by omega), e1, br_pos (by omega), refInt_eq hk]
          try dsimp only
          rw [br_pos (by rw [drawsS_len]; simp [lim]; omega), wr _ (by omega) (by omega)]
          exact ih (i + 1) (by omega)
      exact key (lenS low high x) 0 (by omega)
    · rw [br_ne hf, if_pos (by simpa using hf)]
  · cases h
theorem refWord_eq {R : Type} {k low high x : Int} (h : inI k ∧ inI low ∧ inI high) (K0 : Int → Int → List Int → Option R) :
    l_tutorref21_Word x k low high K0 = K0 (drawnS k low high x).2.2 (drawnS k low high x).1 (drawnS k low high x).2.1 := by
  unfold l_tutorref21_Word
  rw [br_pos h]

abbrev LT_tutorref21_Words := {R : Type} → Int → Int → Int → Int → Int → (Int → (List (List Int)) → Option R) → Option R
abbrev GT_tutorref21_Words_11 (R : Type) := Int → Int → Int → Int → Int → Int → (List (List Int)) → Option R
/-- tutor/tutorref21.Words -/
def s_tutorref21_Words_11 {R : Type} (g19_11 : GT_tutorref21_Words_11 R) (K0 : Int → (List (List Int)) → Option R) (k count low high x i : Int) (o0 : List (List Int)) : Option R :=
  bi (decide (i < count))
   (l_tutorref21_Word x k low high
    (fun r3 r4 r5 =>
     bi (decide ((o0.length + [r5].length) * 24 ≤ lim))
      (g19_11 k count low high r3 (IntKind.i64.wrap (i + 1)) (o0 ++ [r5]))
      none))
   (K0 0 o0)

/-- tutor/tutorref21.Words -/
def e_tutorref21_Words {R : Type} (g19_11 : GT_tutorref21_Words_11 R) (K0 : Int → (List (List Int)) → Option R) (seed k count low high : Int) : Option R :=
  l_tutorref21_fit k low high
   (fun r1 =>
    bi (r1 != 0)
     (K0 r1 ([] : List (List Int)))
     (bi (decide (count < 0))
      (K0 1 ([] : List (List Int)))
      (bi (decide (count > 65536))
       (K0 3 ([] : List (List Int)))
       (l_tutorref21_Start seed
        (fun r2 =>
         g19_11 k count low high r2 0 ([] : List (List Int)))))))

def run_tutorref21_Words {R : Type} (K0 : Int → (List (List Int)) → Option R) : Nat → Int → Int → Int → Int → Int → Int → (List (List Int)) → Option R
  | 0 => fun _ _ _ _ _ _ _ => none
  | n + 1 => s_tutorref21_Words_11 (run_tutorref21_Words K0 n) K0

def l_tutorref21_Words {R : Type} (seed k count low high : Int) (K0 : Int → (List (List Int)) → Option R) : Option R := evl fun fuel => e_tutorref21_Words (run_tutorref21_Words K0 fuel) K0 seed k count low high

theorem ok_tutorref21_Words {R : Type} (seed k count low high : Int) (K0 : Int → (List (List Int)) → Option R) {r : R} (h : l_tutorref21_Words seed k count low high K0 = some r) : ∃ fuel, e_tutorref21_Words (run_tutorref21_Words K0 fuel) K0 seed k count low high = some r := evl_ok h

theorem refWords_go {R : Type} {k low high cnt : Int} (hin : inI k ∧ inI low ∧ inI high) (hc : cnt ≤ 65536) (K0 : Int → (List (List Int)) → Option R) :
    ∀ (d i : Nat) (acc : List (List Int)) (x : Int), ((i + d : Nat) : Int) = cnt → acc.length = i →
      Reach (fun m => run_tutorref21_Words K0 m k cnt low high x i acc) (K0 0 (acc ++ lotsS k low high d x)) := by
  intro d
  induction d with
  | zero =>
    intro i acc x hi ha
    refine .now fun m => ?_
    dsimp only [run_tutorref21_Words]
    unfold s_tutorref21_Words_11
    rw [br_neg (by omega)]
    simp [lotsS]
  | succ d ih =>
    intro i acc x hi ha
    refine .step (fun m => ?_) ((ih (i + 1) (acc ++ [(drawnS k low high x).2.1]) (drawnS k low high x).2.2 (by omega) (by simp [ha])).of_eq (by simp [lotsS]))
    dsimp only [run_tutorref21_Words]
    unfold s_tutorref21_Words_11
    rw [br_pos (by omega), refWord_eq hin]
    try dsimp only
    rw [br_pos (by rw [ha]; simp [lim]; omega), wr _ (by omega) (by omega)]
    rfl

theorem refWords_eq {R : Type} {seed k count low high : Int} (hin : inI k ∧ inI low ∧ inI high) (K0 : Int → (List (List Int)) → Option R) :
    l_tutorref21_Words seed k count low high K0 = if askS k count low high ≠ 0 then K0 (askS k count low high) [] else K0 0 (lotsS k low high count.toNat (seedS seed)) := by
  unfold l_tutorref21_Words
  refine evl_eq ?_
  by_cases h : askS k count low high = 0
  · rw [if_neg (by simpa using h)]
    obtain ⟨h1, h2, h3⟩ := askS_zero h
    have := refWords_go hin h3 K0 count.toNat 0 [] (seedS seed) (by omega) rfl
    refine .same (fun m => ?_) (this.of_eq (by simp))
    unfold e_tutorref21_Words
    rw [fitWR_eq]
    try dsimp only
    rw [br_ne' h1, br_neg (by omega), br_neg (by omega)]
    unfold l_tutorref21_Start seedS
    by_cases h0 : seed = 0
    · rw [br_eq h0, if_pos h0]
      rfl
    · rw [br_eq' h0, if_neg h0]
      rfl
  · rw [if_pos (by simpa using h)]
    refine .now fun m => ?_
    unfold e_tutorref21_Words
    rw [fitWR_eq]
    try dsimp only
    unfold askS at h ⊢
    by_cases h1 : fitW k low high = 0
    · rw [if_neg (by simpa using h1)] at h ⊢
      rw [br_ne' h1]
      by_cases h2 : count < 0
      · rw [br_pos h2, if_pos h2]
      · rw [if_neg h2] at h ⊢
        rw [br_neg h2]
        by_cases h3 : count > 65536
        · rw [br_pos h3, if_pos h3]
        · rw [if_neg h3] at h
          exact absurd rfl h
    · rw [br_ne h1, if_pos (by simpa using h1)]

abbrev LT_tutorref01_Same := {R : Type} → (List Int) → (List Int) → (Bool → Option R) → Option R
abbrev GT_tutorref01_Same_4 (R : Type) := (List Int) → (List Int) → Int → Option R
/-- tutor/tutorref01.Same -/
def s_tutorref01_Same_4 {R : Type} (g16_4 : GT_tutorref01_Same_4 R) (K0 : Bool → Option R) (a b : List Int) (i : Int) : Option R :=
  bi (decide (i < (a.length : Int)))
   (bi (decide (0 ≤ i ∧ i < ((a.length : Nat) : Int)))
    (bi (decide (0 ≤ i ∧ i < ((b.length : Nat) : Int)))
     (bi ((a.getD i.toNat 0) != (b.getD i.toNat 0))
      (K0 false)
      (g16_4 a b (IntKind.i64.wrap (i + 1))))
     none)
    none)
   (K0 true)

/-- tutor/tutorref01.Same -/
def e_tutorref01_Same {R : Type} (g16_4 : GT_tutorref01_Same_4 R) (K0 : Bool → Option R) (a b : List Int) : Option R :=
  bi ((a.length : Int) != (b.length : Int))
   (K0 false)
   (g16_4 a b 0)

def run_tutorref01_Same {R : Type} (K0 : Bool → Option R) : Nat → (List Int) → (List Int) → Int → Option R
  | 0 => fun _ _ _ => none
  | n + 1 => s_tutorref01_Same_4 (run_tutorref01_Same K0 n) K0

def l_tutorref01_Same {R : Type} (a : List Int) (b : List Int) (K0 : Bool → Option R) : Option R := bi (decide (short a)) (K0 (decide (a = b))) none

theorem findP_zip {a b : List Int} (hl : a.length = b.length) : findP (fun i => a.getD i 0 != b.getD i 0) (List.range a.length) = none ↔ a = b := by
  rw [findP_none]
  constructor
  · intro h
    refine List.ext_getElem hl fun i h1 h2 => ?_
    have := h i (by simpa using h1)
    rw [getD_of 0 h1, getD_of 0 h2] at this
    simpa using this
  · rintro rfl i _
    simp

theorem ok_tutorref01_Same {R : Type} (a : List Int) (b : List Int) (K0 : Bool → Option R) {r : R} (h : l_tutorref01_Same a b K0 = some r) : ∃ fuel, e_tutorref01_Same (run_tutorref01_Same K0 fuel) K0 a b = some r := by
  unfold l_tutorref01_Same at h
  rcases bi_some h with ⟨hs, h⟩ | ⟨_, h⟩
  · have hs : a.length < 4611686018427387904 := of_decide_eq_true hs
    refine ⟨a.length + 1, ?_⟩
    rw [← h]
    unfold e_tutorref01_Same
    by_cases hl : a.length = b.length
    · rw [br_ne' (by omega)]
      have key := scan_all (F := fun m i => run_tutorref01_Same K0 m a b (i : Int)) (fun i => a.getD i 0 != b.getD i 0) (l := List.range a.length) (A := fun i => K0 false) (B := K0 true)
        (fun m => by
          show s_tutorref01_Same_4 _ _ _ _ _ = _
          unfold s_tutorref01_Same_4
          rw [List.length_range, br_neg (by omega)])
        (fun m i hi => by
          rw [List.length_range] at hi
          show s_tutorref01_Same_4 _ _ _ _ _ = _
          unfold s_tutorref01_Same_4
          rw [br_pos (by omega), br_pos (by omega), br_pos (by omega), br_if, Int.toNat_natCast, wr _ (by omega) (by omega), List.getElem_range]
          rfl)
      rw [List.length_range] at key
      refine key.trans ?_
      by_cases e : a = b
      · rw [(findP_zip hl).2 e]
        simp [e]
      · have : findP (fun i => a.getD i 0 != b.getD i 0) (List.range a.length) ≠ none := fun h => e ((findP_zip hl).1 h)
        cases hf : findP (fun i => a.getD i 0 != b.getD i 0) (List.range a.length) with
        | none => exact absurd hf this
        | some j => simp [e]
    · rw [br_ne (by omega)]
      have e : a ≠ b := fun e => hl (by rw [e])
      simp [e]
  · cases h

theorem same_eq {R : Type} {a b : List Int} (h : short a) (K0 : Bool → Option R) : l_tutorref01_Same a b K0 = K0 (decide (a = b)) := by
  unfold l_tutorref01_Same
  rw [br_pos h]

abbrev LT_tutorref01_Lists := {R : Type} → (List (List Int)) → (List (List Int)) → (Bool → Option R) → Option R
abbrev GT_tutorref01_Lists_4 (R : Type) := (List (List Int)) → (List (List Int)) → Int → Option R
/-- tutor/tutorref01.Lists -/
def s_tutorref01_Lists_4 {R : Type} (g20_4 : GT_tutorref01_Lists_4 R) (K0 : Bool → Option R) (a b : List (List Int)) (i : Int) : Option R :=
  bi (decide (i < (a.length : Int)))
   (bi (decide (0 ≤ i ∧ i < ((a.length : Nat) : Int)))
    (bi (decide (0 ≤ i ∧ i < ((b.length : Nat) : Int)))
     (l_tutorref01_Same (a.getD i.toNat []) (b.getD i.toNat [])
      (fun r1 =>
       bi (!r1)
        (K0 false)
        (g20_4 a b (IntKind.i64.wrap (i + 1)))))
     none)
    none)
   (K0 true)

/-- tutor/tutorref01.Lists -/
def e_tutorref01_Lists {R : Type} (g20_4 : GT_tutorref01_Lists_4 R) (K0 : Bool → Option R) (a b : List (List Int)) : Option R :=
  bi ((a.length : Int) != (b.length : Int))
   (K0 false)
   (g20_4 a b 0)

def run_tutorref01_Lists {R : Type} (K0 : Bool → Option R) : Nat → (List (List Int)) → (List (List Int)) → Int → Option R
  | 0 => fun _ _ _ => none
  | n + 1 => s_tutorref01_Lists_4 (run_tutorref01_Lists K0 n) K0

def shortR (a : List (List Int)) : Prop := short a ∧ ∀ x ∈ a, short x
instance (a : List (List Int)) : Decidable (shortR a) := by unfold shortR; infer_instance

def l_tutorref01_Lists {R : Type} (a : List (List Int)) (b : List (List Int)) (K0 : Bool → Option R) : Option R := bi (decide (shortR a)) (K0 (decide (a = b))) none

theorem listsLoop {R : Type} {a b : List (List Int)} (ha : shortR a) (hl : a.length = b.length) (K0 : Bool → Option R) : ∀ (d i : Nat), i + d = a.length → a.take i = b.take i → Reach (fun m => run_tutorref01_Lists K0 m a b (i : Int)) (K0 (decide (a = b))) := by
  have hs : a.length < 4611686018427387904 := ha.1
  intro d
  induction d with
  | zero =>
    intro i hi ht
    refine .now fun m => ?_
    dsimp only [run_tutorref01_Lists]
    unfold s_tutorref01_Lists_4
    rw [List.take_of_length_le (by omega), List.take_of_length_le (by omega)] at ht
    rw [br_neg (by omega), ht]
    simp
  | succ d ih =>
    intro i hi ht
    have h1 : i < a.length := by omega
    have h2 : i < b.length := by omega
    by_cases he : a[i] = b[i]
    · refine .step (fun m => ?_) (ih (i + 1) (by omega) ?_)
      · dsimp only [run_tutorref01_Lists]
        unfold s_tutorref01_Lists_4
        rw [br_pos (by omega), br_pos (by omega), br_pos (by omega), Int.toNat_natCast, getD_of [] h1, getD_of [] h2, same_eq (ha.2 _ (List.getElem_mem h1)), decide_eq_true he, Bool.not_true, br_ff, wr _ (by omega) (by omega)]
        rfl
      · rw [List.take_add_one, List.take_add_one, ht, List.getElem?_eq_getElem h1, List.getElem?_eq_getElem h2, he]
    · refine .now fun m => ?_
      dsimp only [run_tutorref01_Lists]
      unfold s_tutorref01_Lists_4
      have hne : ¬ a = b := fun e => he (by subst e; rfl)
      rw [br_pos (by omega), br_pos (by omega), br_pos (by omega), Int.toNat_natCast, getD_of [] h1, getD_of [] h2, same_eq (ha.2 _ (List.getElem_mem h1)), decide_eq_false he, Bool.not_false, br_tt, decide_eq_false hne]

theorem ok_tutorref01_Lists {R : Type} (a : List (List Int)) (b : List (List Int)) (K0 : Bool → Option R) {r : R} (h : l_tutorref01_Lists a b K0 = some r) : ∃ fuel, e_tutorref01_Lists (run_tutorref01_Lists K0 fuel) K0 a b = some r := by
  unfold l_tutorref01_Lists at h
  rcases bi_some h with ⟨hs, h⟩ | ⟨_, h⟩
  · have ha : shortR a := of_decide_eq_true hs
    rw [← h]
    unfold e_tutorref01_Lists
    by_cases hl : a.length = b.length
    · obtain ⟨n, hn⟩ := (listsLoop ha hl K0 a.length 0 (by omega) (by simp)).get
      exact ⟨n, by rw [br_ne' (by omega)]; exact hn⟩
    · have hne : ¬ a = b := fun e => hl (by rw [e])
      exact ⟨0, by rw [br_ne (by omega), decide_eq_false hne]⟩
  · cases h

theorem lists_eq {R : Type} {a b : List (List Int)} (h : shortR a) (K0 : Bool → Option R) : l_tutorref01_Lists a b K0 = K0 (decide (a = b)) := by
  unfold l_tutorref01_Lists
  rw [br_pos h]

abbrev LT_tutorlaw21_num := {R : Type} → Int → (Int → Option R) → Option R
/-- tutor/tutorlaw21.num -/
def l_tutorlaw21_num {R : Type} (e : Int) (K0 : Int → Option R) : Option R :=
  K0 e

abbrev LT_tutorref01_Apart := {R : Type} → (List (List Int)) → (Bool → (List (List Int)) → Option R) → Option R
abbrev GT_tutorref01_Apart_2 (R : Type) := Int → (List (List Int)) → Option R
abbrev GT_tutorref01_Apart_5 (R : Type) := Int → Int → (List (List Int)) → Option R
abbrev GT_tutorref01_Apart_9 (R : Type) := Int → (List (List Int)) → Option R
abbrev GT_tutorref01_Apart_13a (R : Type) := Int → Nat → Int → (List (List Int)) → Option R
abbrev GT_tutorref01_Apart_17 (R : Type) := Int → (List (List Int)) → Option R
abbrev GT_tutorref01_Apart_13b (R : Type) := Int → Int → (List (List Int)) → Nat → Nat → Option R
abbrev GT_tutorref01_Apart_20 (R : Type) := Int → Int → (List (List Int)) → Option R
/-- tutor/tutorref01.Apart -/
def s_tutorref01_Apart_2 {R : Type} (g21_2 : GT_tutorref01_Apart_2 R) (g21_5 : GT_tutorref01_Apart_5 R) (g21_9 : GT_tutorref01_Apart_9 R) (g21_13 : GT_tutorref01_Apart_13a R) (g21_17 : GT_tutorref01_Apart_17 R) (g21_13b : GT_tutorref01_Apart_13b R) (g21_20 : GT_tutorref01_Apart_20 R) (K0 : Bool → (List (List Int)) → Option R) (i : Int) (o0 : List (List Int)) : Option R :=
  bi (decide (i < (o0.length : Int)))
   (g21_5 i 0 o0)
   (g21_9 0 o0)

/-- tutor/tutorref01.Apart -/
def s_tutorref01_Apart_5 {R : Type} (g21_2 : GT_tutorref01_Apart_2 R) (g21_5 : GT_tutorref01_Apart_5 R) (g21_9 : GT_tutorref01_Apart_9 R) (g21_13 : GT_tutorref01_Apart_13a R) (g21_17 : GT_tutorref01_Apart_17 R) (g21_13b : GT_tutorref01_Apart_13b R) (g21_20 : GT_tutorref01_Apart_20 R) (K0 : Bool → (List (List Int)) → Option R) (i k : Int) (o0 : List (List Int)) : Option R :=
  bi (decide (0 ≤ i ∧ i < ((o0.length : Nat) : Int)))
   (bi (decide (k < ((o0.getD i.toNat []).length : Int)))
    (bi (decide (0 ≤ i ∧ i < ((o0.length : Nat) : Int)))
     (bi (decide (0 ≤ k ∧ k < (((o0.getD i.toNat []).length : Nat) : Int)))
      (g21_5 i (IntKind.i64.wrap (k + 1)) (o0.set i.toNat ((o0.getD i.toNat []).set k.toNat (IntKind.i64.wrap ((-1000) - i)))))
      none)
     none)
    (g21_2 (IntKind.i64.wrap (i + 1)) o0))
   none

/-- tutor/tutorref01.Apart -/
def s_tutorref01_Apart_9 {R : Type} (g21_2 : GT_tutorref01_Apart_2 R) (g21_5 : GT_tutorref01_Apart_5 R) (g21_9 : GT_tutorref01_Apart_9 R) (g21_13 : GT_tutorref01_Apart_13a R) (g21_17 : GT_tutorref01_Apart_17 R) (g21_13b : GT_tutorref01_Apart_13b R) (g21_20 : GT_tutorref01_Apart_20 R) (K0 : Bool → (List (List Int)) → Option R) (i : Int) (o0 : List (List Int)) : Option R :=
  bi (decide (i < (o0.length : Int)))
   (bi (decide (0 ≤ i ∧ i < ((o0.length : Nat) : Int)))
    (g21_13 i i.toNat 0 o0)
    none)
   (g21_17 0 o0)

/-- tutor/tutorref01.Apart -/
def s_tutorref01_Apart_13a {R : Type} (g21_2 : GT_tutorref01_Apart_2 R) (g21_5 : GT_tutorref01_Apart_5 R) (g21_9 : GT_tutorref01_Apart_9 R) (g21_13 : GT_tutorref01_Apart_13a R) (g21_17 : GT_tutorref01_Apart_17 R) (g21_13b : GT_tutorref01_Apart_13b R) (g21_20 : GT_tutorref01_Apart_20 R) (K0 : Bool → (List (List Int)) → Option R) (i : Int) (x : Nat) (k : Int) (o0 : List (List Int)) : Option R :=
  bi (decide (k < 6))
   (bi (decide (((o0.getD x []).length + [IntKind.i64.wrap ((-5000) - i)].length) * 8 ≤ lim))
    (g21_13b i (IntKind.i64.wrap (k + 1)) o0 x ((o0.getD x []).length + [IntKind.i64.wrap ((-5000) - i)].length))
    none)
   (g21_9 (IntKind.i64.wrap (i + 1)) o0)

/-- tutor/tutorref01.Apart -/
def s_tutorref01_Apart_17 {R : Type} (g21_2 : GT_tutorref01_Apart_2 R) (g21_5 : GT_tutorref01_Apart_5 R) (g21_9 : GT_tutorref01_Apart_9 R) (g21_13 : GT_tutorref01_Apart_13a R) (g21_17 : GT_tutorref01_Apart_17 R) (g21_13b : GT_tutorref01_Apart_13b R) (g21_20 : GT_tutorref01_Apart_20 R) (K0 : Bool → (List (List Int)) → Option R) (i : Int) (o0 : List (List Int)) : Option R :=
  bi (decide (i < (o0.length : Int)))
   (g21_20 i 0 o0)
   (K0 true o0)

/-- tutor/tutorref01.Apart -/
def s_tutorref01_Apart_13b {R : Type} (g21_2 : GT_tutorref01_Apart_2 R) (g21_5 : GT_tutorref01_Apart_5 R) (g21_9 : GT_tutorref01_Apart_9 R) (g21_13 : GT_tutorref01_Apart_13a R) (g21_17 : GT_tutorref01_Apart_17 R) (g21_13b : GT_tutorref01_Apart_13b R) (g21_20 : GT_tutorref01_Apart_20 R) (K0 : Bool → (List (List Int)) → Option R) (i k : Int) (o0 : List (List Int)) (o1 o1_1 : Nat) : Option R :=
  bi (decide (k < 6))
   (bi (decide ((o1_1 + [IntKind.i64.wrap ((-5000) - i)].length) * 8 ≤ lim))
    (g21_13b i (IntKind.i64.wrap (k + 1)) o0 o1 (o1_1 + [IntKind.i64.wrap ((-5000) - i)].length))
    none)
   (g21_9 (IntKind.i64.wrap (i + 1)) o0)

/-- tutor/tutorref01.Apart -/
def s_tutorref01_Apart_20 {R : Type} (g21_2 : GT_tutorref01_Apart_2 R) (g21_5 : GT_tutorref01_Apart_5 R) (g21_9 : GT_tutorref01_Apart_9 R) (g21_13 : GT_tutorref01_Apart_13a R) (g21_17 : GT_tutorref01_Apart_17 R) (g21_13b : GT_tutorref01_Apart_13b R) (g21_20 : GT_tutorref01_Apart_20 R) (K0 : Bool → (List (List Int)) → Option R) (i k : Int) (o0 : List (List Int)) : Option R :=
  bi (decide (0 ≤ i ∧ i < ((o0.length : Nat) : Int)))
   (bi (decide (k < ((o0.getD i.toNat []).length : Int)))
    (bi (decide (0 ≤ i ∧ i < ((o0.length : Nat) : Int)))
     (bi (decide (0 ≤ k ∧ k < (((o0.getD i.toNat []).length : Nat) : Int)))
      (bi (((o0.getD i.toNat []).getD k.toNat 0) != (IntKind.i64.wrap ((-1000) - i)))
       (K0 false o0)
       (g21_20 i (IntKind.i64.wrap (k + 1)) o0))
      none)
     none)
    (g21_17 (IntKind.i64.wrap (i + 1)) o0))
   none

/-- tutor/tutorref01.Apart -/
def e_tutorref01_Apart {R : Type} (g21_2 : GT_tutorref01_Apart_2 R) (g21_5 : GT_tutorref01_Apart_5 R) (g21_9 : GT_tutorref01_Apart_9 R) (g21_13 : GT_tutorref01_Apart_13a R) (g21_17 : GT_tutorref01_Apart_17 R) (g21_13b : GT_tutorref01_Apart_13b R) (g21_20 : GT_tutorref01_Apart_20 R) (K0 : Bool → (List (List Int)) → Option R) (o0 : List (List Int)) : Option R :=
  g21_2 0 o0

def run_tutorref01_Apart {R : Type} (K0 : Bool → (List (List Int)) → Option R) : Nat → (Int → (List (List Int)) → Option R) × (Int → Int → (List (List Int)) → Option R) × (Int → (List (List Int)) → Option R) × (Int → Nat → Int → (List (List Int)) → Option R) × (Int → (List (List Int)) → Option R) × (Int → Int → (List (List Int)) → Nat → Nat → Option R) × (Int → Int → (List (List Int)) → Option R)
  | 0 => (fun _ _ => none, fun _ _ _ => none, fun _ _ => none, fun _ _ _ _ => none, fun _ _ => none, fun _ _ _ _ _ => none, fun _ _ _ => none)
  | n + 1 => (s_tutorref01_Apart_2 (run_tutorref01_Apart K0 n).1 (run_tutorref01_Apart K0 n).2.1 (run_tutorref01_Apart K0 n).2.2.1 (run_tutorref01_Apart K0 n).2.2.2.1 (run_tutorref01_Apart K0 n).2.2.2.2.1 (run_tutorref01_Apart K0 n).2.2.2.2.2.1 (run_tutorref01_Apart K0 n).2.2.2.2.2.2 K0, s_tutorref01_Apart_5 (run_tutorref01_Apart K0 n).1 (run_tutorref01_Apart K0 n).2.1 (run_tutorref01_Apart K0 n).2.2.1 (run_tutorref01_Apart K0 n).2.2.2.1 (run_tutorref01_Apart K0 n).2.2.2.2.1 (run_tutorref01_Apart K0 n).2.2.2.2.2.1 (run_tutorref01_Apart K0 n).2.2.2.2.2.2 K0, s_tutorref01_Apart_9 (run_tutorref01_Apart K0 n).1 (run_tutorref01_Apart K0 n).2.1 (run_tutorref01_Apart K0 n).2.2.1 (run_tutorref01_Apart K0 n).2.2.2.1 (run_tutorref01_Apart K0 n).2.2.2.2.1 (run_tutorref01_Apart K0 n).2.2.2.2.2.1 (run_tutorref01_Apart K0 n).2.2.2.2.2.2 K0, s_tutorref01_Apart_13a (run_tutorref01_Apart K0 n).1 (run_tutorref01_Apart K0 n).2.1 (run_tutorref01_Apart K0 n).2.2.1 (run_tutorref01_Apart K0 n).2.2.2.1 (run_tutorref01_Apart K0 n).2.2.2.2.1 (run_tutorref01_Apart K0 n).2.2.2.2.2.1 (run_tutorref01_Apart K0 n).2.2.2.2.2.2 K0, s_tutorref01_Apart_17 (run_tutorref01_Apart K0 n).1 (run_tutorref01_Apart K0 n).2.1 (run_tutorref01_Apart K0 n).2.2.1 (run_tutorref01_Apart K0 n).2.2.2.1 (run_tutorref01_Apart K0 n).2.2.2.2.1 (run_tutorref01_Apart K0 n).2.2.2.2.2.1 (run_tutorref01_Apart K0 n).2.2.2.2.2.2 K0, s_tutorref01_Apart_13b (run_tutorref01_Apart K0 n).1 (run_tutorref01_Apart K0 n).2.1 (run_tutorref01_Apart K0 n).2.2.1 (run_tutorref01_Apart K0 n).2.2.2.1 (run_tutorref01_Apart K0 n).2.2.2.2.1 (run_tutorref01_Apart K0 n).2.2.2.2.2.1 (run_tutorref01_Apart K0 n).2.2.2.2.2.2 K0, s_tutorref01_Apart_20 (run_tutorref01_Apart K0 n).1 (run_tutorref01_Apart K0 n).2.1 (run_tutorref01_Apart K0 n).2.2.1 (run_tutorref01_Apart K0 n).2.2.2.1 (run_tutorref01_Apart K0 n).2.2.2.2.1 (run_tutorref01_Apart K0 n).2.2.2.2.2.1 (run_tutorref01_Apart K0 n).2.2.2.2.2.2 K0)

/-- Each row written full with a mark of its own, from a row on. -/
def markF (i : Nat) (o : List (List Int)) : List (List Int) := o.mapIdx fun j x => if i ≤ j then List.replicate x.length (-1000 - (j : Int)) else x

theorem markF_len (i : Nat) (o : List (List Int)) : (markF i o).length = o.length := by simp [markF]
theorem markF_get {i j : Nat} {o : List (List Int)} (h : j < o.length) : (markF i o).getD j [] = if i ≤ j then List.replicate (o.getD j []).length (-1000 - (j : Int)) else o.getD j [] := by
  unfold markF
  rw [getD_of [] (by simpa using h), List.getElem_mapIdx, getD_of [] h]

theorem rows_ext {o p : List (List Int)} (hl : o.length = p.length) (h : ∀ j, j < o.length → o.getD j [] = p.getD j []) : o = p := by
  refine List.ext_getElem hl fun j h1 h2 => ?_
  have := h j h1
  rwa [getD_of [] h1, getD_of [] h2] at this

theorem getD_setL (l : List (List Int)) (i t : Nat) (x : List Int) : (l.set i x).getD t [] = if i = t ∧ i < l.length then x else l.getD t [] := by
  rw [List.getD_eq_getElem?_getD, List.getElem?_set, List.getD_eq_getElem?_getD]
  by_cases h : i = t
  · subst h
    by_cases h2 : i < l.length
    · simp [h2]
    · simp [h2]
  · simp [h]

def apOk (o : List (List Int)) : Prop := short o ∧ ∀ x ∈ o, x.length ≤ 17592186044400
instance (o : List (List Int)) : Decidable (apOk o) := by unfold apOk; infer_instance

theorem apOk_set {o : List (List Int)} {i : Nat} {x : List Int} (h : apOk o) (hx : x.length ≤ 17592186044400) : apOk (o.set i x) := by
  refine ⟨by have := h.1; unfold short at *; simpa using this, fun y hy => ?_⟩
  rcases List.mem_or_eq_of_mem_set hy with h1 | rfl
  · exact h.2 y h1
  · exact hx

theorem apOk_row {o : List (List Int)} (h : apOk o) {j : Nat} (hj : j < o.length) : (o.getD j []).length ≤ 17592186044400 := by
  rw [getD_of [] hj]
  exact h.2 _ (List.getElem_mem hj)

def l_tutorref01_Apart {R : Type} (o0 : List (List Int)) (K0 : Bool → (List (List Int)) → Option R) : Option R := bi (decide (apOk o0)) (K0 true (markF 0 o0)) none

section
variable {R : Type} (K0 : Bool → (List (List Int)) → Option R) {v : Option R}

theorem ap_in {o : List (List Int)} {i : Nat} (hi : i < o.length) : ∀ (e k : Nat) (o' : List (List Int)), o'.length = o.length → apOk o' → k + e = (o'.getD i []).length →
    Reach (fun m => (run_tutorref01_Apart K0 m).1 ((i : Int) + 1) (o'.set i ((o'.getD i []).take k ++ List.replicate e (-1000 - (i : Int))))) v → Reach (fun m => (run_tutorref01_Apart K0 m).2.1 (i : Int) (k : Int) o') v := by
  intro e
  induction e with
  | zero =>
    intro k o' hl hok hk h
    have hs : o'.length < 4611686018427387904 := hok.1
    refine .step (fun m => ?_) h
    dsimp only [run_tutorref01_Apart]
    unfold s_tutorref01_Apart_5
    have e1 : o'.set i ((o'.getD i []).take k ++ List.replicate 0 (-1000 - (i : Int))) = o' := by
      refine rows_ext (by simp) fun j hj => ?_
      rw [getD_setL]
      split
      · rename_i hc
        rw [← hc.1, List.take_of_length_le (by omega)]
        simp
      · rfl
    rw [e1, br_pos (by omega), Int.toNat_natCast, br_neg (by omega), wr _ (by omega) (by omega)]
  | succ e ih =>
    intro k o' hl hok hk h
    have hs : o'.length < 4611686018427387904 := hok.1
    have hr := apOk_row hok (show i < o'.length by omega)
    refine .step (fun m => ?_) (ih (k + 1) (o'.set i ((o'.getD i []).set k (-1000 - (i : Int)))) (by simpa using hl) (apOk_set hok (by simpa using hr)) ?_ ?_)
    · dsimp only [run_tutorref01_Apart]
      unfold s_tutorref01_Apart_5
      rw [br_pos (by omega), Int.toNat_natCast, br_pos (by omega), br_pos (by omega), br_pos (by omega), wr _ (by omega) (by omega), wr _ (by omega) (by omega), Int.toNat_natCast]
      rfl
    · rw [getD_setL, if_pos ⟨rfl, by omega⟩, List.length_set]
      omega
    · rw [getD_setL, if_pos ⟨rfl, by omega⟩, List.set_set]
      have e2 : ((o'.getD i []).set k (-1000 - (i : Int))).take (k + 1) ++ List.replicate e (-1000 - (i : Int)) = (o'.getD i []).take k ++ List.replicate (e + 1) (-1000 - (i : Int)) := by
        have hk2 : k < (o'.getD i []).length := by omega
        rw [List.replicate_succ, List.take_add_one, List.take_set_of_le (Nat.le_refl k), List.append_assoc]
        congr 1
        have e3 : ((o'.getD i []).set k (-1000 - (i : Int)))[k]? = some (-1000 - (i : Int)) := by rw [List.getElem?_set, if_pos rfl, if_pos hk2]
        rw [e3]
        rfl
      rw [e2]
      exact h

theorem ap_mark : ∀ (d i : Nat) (o : List (List Int)), i + d = o.length → apOk o → Reach (fun m => (run_tutorref01_Apart K0 m).2.2.1 0 (markF i o)) v → Reach (fun m => (run_tutorref01_Apart K0 m).1 (i : Int) o) v := by
  intro d
  induction d with
  | zero =>
    intro i o hi hok h
    have hs : o.length < 4611686018427387904 := hok.1
    refine .step (fun m => ?_) h
    dsimp only [run_tutorref01_Apart]
    unfold s_tutorref01_Apart_2
    have e1 : markF i o = o := by
      refine rows_ext (markF_len i o) fun j hj => ?_
      rw [markF_len] at hj
      rw [markF_get hj, if_neg (by omega)]
    rw [br_neg (by omega), e1]
  | succ d ih =>
    intro i o hi hok h
    have hs : o.length < 4611686018427387904 := hok.1
    have hio : i < o.length := by omega
    have hr := apOk_row hok hio
    refine .step (fun m => ?_) (ap_in K0 hio (o.getD i []).length 0 o rfl hok (by omega) ?_)
    · dsimp only [run_tutorref01_Apart]
      unfold s_tutorref01_Apart_2
      rw [br_pos (by omega)]
      rfl
    · have e1 : (o.getD i []).take 0 ++ List.replicate (o.getD i []).length (-1000 - (i : Int)) = List.replicate (o.getD i []).length (-1000 - (i : Int)) := rfl
      rw [e1]
      have := ih (i + 1) (o.set i (List.replicate (o.getD i []).length (-1000 - (i : Int)))) (by simp; omega) (apOk_set hok (by simpa using hr)) ?_
      · exact this
      · have e2 : markF (i + 1) (o.set i (List.replicate (o.getD i []).length (-1000 - (i : Int)))) = markF i o := by
          refine rows_ext (by simp [markF_len]) fun j hj => ?_
          rw [markF_len, List.length_set] at hj
          rw [markF_get (by simpa using hj), markF_get hj, getD_setL]
          by_cases c1 : i = j
          · subst c1
            rw [if_neg (by omega), if_pos ⟨rfl, hio⟩, if_pos (Nat.le_refl _)]
          · rw [if_neg (show ¬ (i = j ∧ i < o.length) from fun h => c1 h.1)]
            by_cases c2 : i ≤ j
            · rw [if_pos c2, if_pos (by omega)]
            · rw [if_neg c2, if_neg (by omega)]
        rw [e2]
        exact h

theorem ap_grow {o : List (List Int)} {i : Nat} (hi : i < o.length) (hok : apOk o) : ∀ (e k n : Nat), k + e = 6 → n ≤ 17592186044400 + k → 1 ≤ k → Reach (fun m => (run_tutorref01_Apart K0 m).2.2.1 ((i : Int) + 1) o) v →
    Reach (fun m => (run_tutorref01_Apart K0 m).2.2.2.2.2.1 (i : Int) (k : Int) o i n) v := by
  intro e
  have hs : o.length < 4611686018427387904 := hok.1
  induction e with
  | zero =>
    intro k n hk hn h1 h
    refine .step (fun m => ?_) h
    dsimp only [run_tutorref01_Apart]
    unfold s_tutorref01_Apart_13b
    rw [br_neg (by omega), wr _ (by omega) (by omega)]
  | succ e ih =>
    intro k n hk hn h1 h
    refine .step (fun m => ?_) (ih (k + 1) (n + 1) (by omega) (by omega) (by omega) h)
    dsimp only [run_tutorref01_Apart]
    unfold s_tutorref01_Apart_13b
    rw [br_pos (by omega), List.length_singleton, br_pos (by simp [lim]; omega), wr _ (by omega) (by omega)]
    rfl

theorem ap_ext {o : List (List Int)} (hok : apOk o) : ∀ (d i : Nat), i + d = o.length → Reach (fun m => (run_tutorref01_Apart K0 m).2.2.2.2.1 0 o) v → Reach (fun m => (run_tutorref01_Apart K0 m).2.2.1 (i : Int) o) v := by
  intro d
  have hs : o.length < 4611686018427387904 := hok.1
  induction d with
  | zero =>
    intro i hi h
    refine .step (fun m => ?_) h
    dsimp only [run_tutorref01_Apart]
    unfold s_tutorref01_Apart_9
    rw [br_neg (by omega)]
  | succ d ih =>
    intro i hi h
    have hr := apOk_row hok (show i < o.length by omega)
    have h2 := ih (i + 1) (by omega) h
    refine .step (G := fun m => (run_tutorref01_Apart K0 m).2.2.2.1 (i : Int) i 0 o) (fun m => ?_) (.step (fun m => ?_) (ap_grow K0 (show i < o.length by omega) hok 5 1 ((o.getD i []).length + 1) (by omega) (by omega) (by omega) h2))
    · dsimp only [run_tutorref01_Apart]
      unfold s_tutorref01_Apart_9
      rw [br_pos (by omega), br_pos (by omega), Int.toNat_natCast]
    · dsimp only [run_tutorref01_Apart]
      unfold s_tutorref01_Apart_13a
      rw [br_pos (by omega), List.length_singleton, br_pos (by show ((o.getD i []).length + 1) * 8 ≤ 140737488355328; omega), wr _ (by omega) (by omega)]
      rfl

theorem ap_row {o : List (List Int)} (hok : apOk o) {i : Nat} (hi : i < o.length) (hm : ∀ x ∈ o.getD i [], x = -1000 - (i : Int)) : ∀ (e k : Nat), k + e = (o.getD i []).length → Reach (fun m => (run_tutorref01_Apart K0 m).2.2.2.2.1 ((i : Int) + 1) o) v →
    Reach (fun m => (run_tutorref01_Apart K0 m).2.2.2.2.2.2 (i : Int) (k : Int) o) v := by
  intro e
  have hs : o.length < 4611686018427387904 := hok.1
  have hr := apOk_row hok hi
  induction e with
  | zero =>
    intro k hk h
    refine .step (fun m => ?_) h
    dsimp only [run_tutorref01_Apart]
    unfold s_tutorref01_Apart_20
    rw [br_pos (by omega), Int.toNat_natCast, br_neg (by omega), wr _ (by omega) (by omega)]
  | succ e ih =>
    intro k hk h
    refine .step (fun m => ?_) (ih (k + 1) (by omega) h)
    dsimp only [run_tutorref01_Apart]
    unfold s_tutorref01_Apart_20
    have hx : (o.getD i []).getD k 0 = -1000 - (i : Int) := by
      rw [getD_of 0 (by omega)]
      exact hm _ (List.getElem_mem _)
    rw [br_pos (by omega), Int.toNat_natCast, br_pos (by omega), br_pos (by omega), br_pos (by omega), Int.toNat_natCast, hx, wr (-1000 - (i : Int)) (by omega) (by omega), br_ne' rfl, wr _ (by omega) (by omega)]
    rfl

theorem ap_look {o : List (List Int)} (hok : apOk o) (hm : ∀ i, i < o.length → ∀ x ∈ o.getD i [], x = -1000 - (i : Int)) : ∀ (d i : Nat), i + d = o.length → Reach (fun m => (run_tutorref01_Apart K0 m).2.2.2.2.1 (i : Int) o) (K0 true o) := by
  intro d
  have hs : o.length < 4611686018427387904 := hok.1
  induction d with
  | zero =>
    intro i hi
    refine .now fun m => ?_
    dsimp only [run_tutorref01_Apart]
    unfold s_tutorref01_Apart_17
    rw [br_neg (by omega)]
  | succ d ih =>
    intro i hi
    refine .step (fun m => ?_) (ap_row K0 hok (show i < o.length by omega) (hm i (by omega)) (o.getD i []).length 0 (by omega) (ih (i + 1) (by omega)))
    dsimp only [run_tutorref01_Apart]
    unfold s_tutorref01_Apart_17
    rw [br_pos (by omega)]
    rfl
end

theorem ok_tutorref01_Apart {R : Type} (o0 : List (List Int)) (K0 : Bool → (List (List Int)) → Option R) {r : R} (h : l_tutorref01_Apart o0 K0 = some r) : ∃ fuel, e_tutorref01_Apart (run_tutorref01_Apart K0 fuel).1 (run_tutorref01_Apart K0 fuel).2.1 (run_tutorref01_Apart K0 fuel).2.2.1 (run_tutorref01_Apart K0 fuel).2.2.2.1 (run_tutorref01_Apart K0 fuel).2.2.2.2.1 (run_tutorref01_Apart K0 fuel).2.2.2.2.2.1 (run_tutorref01_Apart K0 fuel).2.2.2.2.2.2 K0 o0 = some r := by
  unfold l_tutorref01_Apart at h
  rcases bi_some h with ⟨hs, h⟩ | ⟨_, h⟩
  · have hok : apOk o0 := of_decide_eq_true hs
    rw [← h]
    unfold e_tutorref01_Apart
    have hok2 : apOk (markF 0 o0) := by
      refine ⟨by unfold short; rw [markF_len]; exact hok.1, fun x hx => ?_⟩
      obtain ⟨j, hj, rfl⟩ := List.getElem_of_mem hx
      rw [markF_len] at hj
      rw [← getD_of [] (by rw [markF_len]; exact hj), markF_get hj, if_pos (Nat.zero_le _), List.length_replicate]
      exact apOk_row hok hj
    have hm : ∀ i, i < (markF 0 o0).length → ∀ x ∈ (markF 0 o0).getD i [], x = -1000 - (i : Int) := by
      intro i hi x hx
      rw [markF_len] at hi
      rw [markF_get hi, if_pos (Nat.zero_le _)] at hx
      exact List.eq_of_mem_replicate hx
    exact (ap_mark K0 o0.length 0 o0 (by omega) hok (ap_ext K0 hok2 (markF 0 o0).length 0 (by omega) (ap_look K0 hok2 hm (markF 0 o0).length 0 (by omega)))).get
  · cases h

theorem apart_eq {R : Type} {o0 : List (List Int)} (h : apOk o0) (K0 : Bool → (List (List Int)) → Option R) : l_tutorref01_Apart o0 K0 = K0 true (markF 0 o0) := by
  unfold l_tutorref01_Apart
  rw [br_pos h]

abbrev LT_tutorlaw21_WalkWords := {R : Type} → Int → Int → Int → Int → Int → (Bool → Option R) → Option R
/-- tutor/tutorlaw21.WalkWords -/
def l_tutorlaw21_WalkWords {R : Type} (seed k count low high : Int) (K0 : Bool → Option R) : Option R :=
  bi (decide (count > 200))
   (bi (decide (count ≤ 65536))
    (l_tutorlaw21_live
     (fun r1 =>
      K0 r1))
    (l_walk_Words seed k count low high
     (fun r2 r3 =>
      l_tutorref21_Words seed k count low high
       (fun r4 r5 =>
        l_tutorref01_Lists r3 r5
         (fun r6 =>
          bi r6
           (l_tutorlaw21_num r2
            (fun r7 =>
             bi (r7 == r4)
              (l_tutorref01_Apart r3
               (fun r8 r9 =>
                bi r8
                 (l_tutorlaw21_live
                  (fun r10 =>
                   K0 r10))
                 (K0 false)))
              (K0 false)))
           (K0 false))))
     (fun r11 r12 =>
      l_tutorref21_Words seed k count low high
       (fun r13 r14 =>
        l_tutorref01_Lists r12 r14
         (fun r15 =>
          bi r15
           (l_tutorlaw21_num r11
            (fun r16 =>
             bi (r16 == r13)
              (l_tutorref01_Apart r12
               (fun r17 r18 =>
                bi r17
                 (l_tutorlaw21_live
                  (fun r19 =>
                   K0 r19))
                 (K0 false)))
              (K0 false)))
           (K0 false))))))
   (l_walk_Words seed k count low high
    (fun r20 r21 =>
     l_tutorref21_Words seed k count low high
      (fun r22 r23 =>
       l_tutorref01_Lists r21 r23
        (fun r24 =>
         bi r24
          (l_tutorlaw21_num r20
           (fun r25 =>
            bi (r25 == r22)
             (l_tutorref01_Apart r21
              (fun r26 r27 =>
               bi r26
                (l_tutorlaw21_live
                 (fun r28 =>
                  K0 r28))
                (K0 false)))
             (K0 false)))
          (K0 false))))
    (fun r29 r30 =>
     l_tutorref21_Words seed k count low high
      (fun r31 r32 =>
       l_tutorref01_Lists r30 r32
        (fun r33 =>
         bi r33
          (l_tutorlaw21_num r29
           (fun r34 =>
            bi (r34 == r31)
             (l_tutorref01_Apart r30
              (fun r35 r36 =>
               bi r35
                (l_tutorlaw21_live
                 (fun r37 =>
                  K0 r37))
                (K0 false)))
             (K0 false)))
          (K0 false)))))

theorem law_tutorlaw21_WalkWords {R : Type} (seed k count low high : Int) (K0 : Bool → Option R) (h1 : inU seed) (h2 : inI k) (h3 : inI count) (h4 : inI low) (h5 : inI high) :
    l_tutorlaw21_WalkWords seed k count low high K0 = K0 true := by
  have hin : inI k ∧ inI low ∧ inI high := ⟨h2, h4, h5⟩
  have hfin : ∀ ws : List (List Int), ws.length ≤ 65536 → (∀ w ∈ ws, w.length ≤ 4096) → ∀ e : Int,
      l_tutorref01_Lists ws ws (fun r6 => bi r6 (l_tutorlaw21_num e (fun r7 => bi (r7 == e) (l_tutorref01_Apart ws (fun r8 r9 => bi r8 (l_tutorlaw21_live (fun r10 => K0 r10)) (K0 false))) (K0 false))) (K0 false)) = K0 true := by
    intro ws hl hw e
    rw [lists_eq ⟨by unfold short; omega, fun w h => by have := hw w h; unfold short; omega⟩, decide_eq_true rfl]
    try dsimp only
    rw [br_tt]
    unfold l_tutorlaw21_num
    try dsimp only
    rw [br_eq rfl, apart_eq ⟨by unfold short; omega, fun w h => by have := hw w h; omega⟩]
    try dsimp only
    rw [br_tt, live21]
  have hwalk : ∀ (X : Int → List (List Int) → Option R), (∀ e ws, X e ws = l_tutorref21_Words seed k count low high
       (fun r4 r5 =>
        l_tutorref01_Lists ws r5
         (fun r6 =>
          bi r6
           (l_tutorlaw21_num e
            (fun r7 =>
             bi (r7 == r4)
              (l_tutorref01_Apart ws
               (fun r8 r9 =>
                bi r8
                 (l_tutorlaw21_live
                  (fun r10 =>
                   K0 r10))
                 (K0 false)))
              (K0 false)))
           (K0 false)))) → l_walk_Words seed k count low high X X = K0 true := by
    intro X hX
    rw [words_eq hin]
    simp only [hX, refWords_eq hin]
    by_cases h : askS k count low high = 0
    · rw [if_neg (by simpa using h)]
      obtain ⟨a1, a2, a3⟩ := askS_zero h
      by_cases hc : count < 1
      · rw [if_pos hc, if_neg (by simpa using h), show count.toNat = 0 by omega]
        exact hfin [] (by simp) (by simp) 0
      · rw [if_neg hc, if_neg (by simpa using h)]
        exact hfin _ (by rw [lotsS_len]; omega) (lotsS_short _ _) 0
    · rw [if_pos (by simpa using h), if_pos (by simpa using h)]
      exact hfin [] (by simp) (by simp) _
  unfold l_tutorlaw21_WalkWords
  by_cases c1 : count > 200
  · rw [br_pos c1]
    by_cases c2 : count ≤ 65536
    · rw [br_pos c2, live21]
    · rw [br_neg c2]
      exact hwalk _ fun _ _ => rfl
  · rw [br_neg c1]
    exact hwalk _ fun _ _ => rfl

end
end Go.Ev
