/- Functions of the program, as trees of tests over numbers and lists; no program in sight. -/
import Derived.Test.YtgbpgjfjohoabaaEvWalk21
namespace Go.Ev
set_option linter.unusedVariables false
set_option linter.unusedSimpArgs false
set_option maxRecDepth 100000
set_option maxHeartbeats 4000000

/-- tutor/walk.New -/
def l_walk_New {R : Type} (seed : Int) (K0 : Int → Option R) : Option R :=
  bi (seed == 0)
   (K0 88172645463325252)
   (K0 seed)

/-- tutor/tutorref21.Int -/
def l_tutorref21_Int {R : Type} (x : Int) (n : Int) (K0 : Int → Int → Option R) : Option R :=
  bi (decide (n < 1))
   (K0 0 x)
   (bi (decide ((IntKind.u64.wrap n) = 0))
    none
    (K0 (IntKind.i64.wrap (((IntKind.u64.wrap ((IntKind.u64.wrap (BitVec.ofInt 64 (IntKind.u64.wrap (BitVec.ofInt 64 (IntKind.u64.wrap (BitVec.ofInt 64 x ^^^ BitVec.ofInt 64 (x.fdiv (2 ^ (min (12 : Int).toNat 64)))).toNat) ^^^ BitVec.ofInt 64 (IntKind.u64.wrap ((IntKind.u64.wrap (BitVec.ofInt 64 x ^^^ BitVec.ofInt 64 (x.fdiv (2 ^ (min (12 : Int).toNat 64)))).toNat) * 2 ^ (min (25 : Int).toNat 64)))).toNat) ^^^ BitVec.ofInt 64 ((IntKind.u64.wrap (BitVec.ofInt 64 (IntKind.u64.wrap (BitVec.ofInt 64 x ^^^ BitVec.ofInt 64 (x.fdiv (2 ^ (min (12 : Int).toNat 64)))).toNat) ^^^ BitVec.ofInt 64 (IntKind.u64.wrap ((IntKind.u64.wrap (BitVec.ofInt 64 x ^^^ BitVec.ofInt 64 (x.fdiv (2 ^ (min (12 : Int).toNat 64)))).toNat) * 2 ^ (min (25 : Int).toNat 64)))).toNat).fdiv (2 ^ (min (27 : Int).toNat 64)))).toNat) * 2685821657736338717)).fdiv (2 ^ (min (33 : Int).toNat 64))).tmod (IntKind.u64.wrap n))) (IntKind.u64.wrap (BitVec.ofInt 64 (IntKind.u64.wrap (BitVec.ofInt 64 (IntKind.u64.wrap (BitVec.ofInt 64 x ^^^ BitVec.ofInt 64 (x.fdiv (2 ^ (min (12 : Int).toNat 64)))).toNat) ^^^ BitVec.ofInt 64 (IntKind.u64.wrap ((IntKind.u64.wrap (BitVec.ofInt 64 x ^^^ BitVec.ofInt 64 (x.fdiv (2 ^ (min (12 : Int).toNat 64)))).toNat) * 2 ^ (min (25 : Int).toNat 64)))).toNat) ^^^ BitVec.ofInt 64 ((IntKind.u64.wrap (BitVec.ofInt 64 (IntKind.u64.wrap (BitVec.ofInt 64 x ^^^ BitVec.ofInt 64 (x.fdiv (2 ^ (min (12 : Int).toNat 64)))).toNat) ^^^ BitVec.ofInt 64 (IntKind.u64.wrap ((IntKind.u64.wrap (BitVec.ofInt 64 x ^^^ BitVec.ofInt 64 (x.fdiv (2 ^ (min (12 : Int).toNat 64)))).toNat) * 2 ^ (min (25 : Int).toNat 64)))).toNat).fdiv (2 ^ (min (27 : Int).toNat 64)))).toNat)))

theorem refInt_eq {R : Type} {n x : Int} (hn : inI n) (K0 : Int → Int → Option R) : l_tutorref21_Int x n K0 = K0 (intS n x).1 (intS n x).2 := by
  obtain ⟨_, h2⟩ := hn
  unfold l_tutorref21_Int intS
  by_cases h : n < 1
  · rw [br_pos h, if_pos h]
  · rw [br_neg h, if_neg h]
    rw [br_neg (by rw [wru, Int.emod_eq_of_lt (by omega) (by omega)]; omega)]
    rfl

/-- (*tutor/walk.source).draw -/
def l_walk_source_draw {R : Type} (o0 : Int) (K0 : Int → Int → Option R) : Option R :=
  K0 ((IntKind.u64.wrap ((IntKind.u64.wrap (BitVec.ofInt 64 (IntKind.u64.wrap (BitVec.ofInt 64 (IntKind.u64.wrap (BitVec.ofInt 64 o0 ^^^ BitVec.ofInt 64 (o0.fdiv (2 ^ (min (12 : Int).toNat 64)))).toNat) ^^^ BitVec.ofInt 64 (IntKind.u64.wrap ((IntKind.u64.wrap (BitVec.ofInt 64 o0 ^^^ BitVec.ofInt 64 (o0.fdiv (2 ^ (min (12 : Int).toNat 64)))).toNat) * 2 ^ (min (25 : Int).toNat 64)))).toNat) ^^^ BitVec.ofInt 64 ((IntKind.u64.wrap (BitVec.ofInt 64 (IntKind.u64.wrap (BitVec.ofInt 64 o0 ^^^ BitVec.ofInt 64 (o0.fdiv (2 ^ (min (12 : Int).toNat 64)))).toNat) ^^^ BitVec.ofInt 64 (IntKind.u64.wrap ((IntKind.u64.wrap (BitVec.ofInt 64 o0 ^^^ BitVec.ofInt 64 (o0.fdiv (2 ^ (min (12 : Int).toNat 64)))).toNat) * 2 ^ (min (25 : Int).toNat 64)))).toNat).fdiv (2 ^ (min (27 : Int).toNat 64)))).toNat) * 2685821657736338717)).fdiv (2 ^ (min (33 : Int).toNat 64))) (IntKind.u64.wrap (BitVec.ofInt 64 (IntKind.u64.wrap (BitVec.ofInt 64 (IntKind.u64.wrap (BitVec.ofInt 64 o0 ^^^ BitVec.ofInt 64 (o0.fdiv (2 ^ (min (12 : Int).toNat 64)))).toNat) ^^^ BitVec.ofInt 64 (IntKind.u64.wrap ((IntKind.u64.wrap (BitVec.ofInt 64 o0 ^^^ BitVec.ofInt 64 (o0.fdiv (2 ^ (min (12 : Int).toNat 64)))).toNat) * 2 ^ (min (25 : Int).toNat 64)))).toNat) ^^^ BitVec.ofInt 64 ((IntKind.u64.wrap (BitVec.ofInt 64 (IntKind.u64.wrap (BitVec.ofInt 64 o0 ^^^ BitVec.ofInt 64 (o0.fdiv (2 ^ (min (12 : Int).toNat 64)))).toNat) ^^^ BitVec.ofInt 64 (IntKind.u64.wrap ((IntKind.u64.wrap (BitVec.ofInt 64 o0 ^^^ BitVec.ofInt 64 (o0.fdiv (2 ^ (min (12 : Int).toNat 64)))).toNat) * 2 ^ (min (25 : Int).toNat 64)))).toNat).fdiv (2 ^ (min (27 : Int).toNat 64)))).toNat)

/-- (*tutor/walk.Walk).Int -/
def l_walk_Walk_Int {R : Type} (n : Int) (o0 : Int) (K0 : Int → Int → Option R) : Option R :=
  bi (decide (n < 1))
   (K0 0 o0)
   (l_walk_source_draw o0
    (fun r1 r2 =>
     bi (decide ((IntKind.u64.wrap n) = 0))
      none
      (K0 (IntKind.i64.wrap (r1.tmod (IntKind.u64.wrap n))) r2)))

theorem walkInt_eq {R : Type} {n x : Int} (hn : inI n) (K0 : Int → Int → Option R) : l_walk_Walk_Int n x K0 = K0 (intS n x).1 (intS n x).2 := by
  obtain ⟨_, h2⟩ := hn
  unfold l_walk_Walk_Int l_walk_source_draw intS
  by_cases h : n < 1
  · rw [br_pos h, if_pos h]
  · rw [br_neg h, if_neg h]
    dsimp only
    rw [br_neg (by rw [wru, Int.emod_eq_of_lt (by omega) (by omega)]; omega)]
    rfl

/-- tutor/tutorlaw21.live -/
def l_tutorlaw21_live {R : Type}  (K0 : Bool → Option R) : Option R :=
  l_walk_New 1
   (fun r1 =>
    l_tutorref21_Int 1 1000
     (fun r2 r3 =>
      l_tutorref21_Int r3 1000
       (fun r4 r5 =>
        l_walk_Walk_Int 1000 r1
         (fun r6 r7 =>
          bi (r6 == r2)
           (l_walk_Walk_Int 1000 r7
            (fun r8 r9 =>
             bi (r8 == r4)
              (K0 (r2 != r4))
              (K0 false)))
           (K0 false)))))

theorem live21 {R : Type} (K0 : Bool → Option R) : l_tutorlaw21_live K0 = K0 true := by
  unfold l_tutorlaw21_live l_walk_New
  rw [br_eq' (by decide)]
  dsimp only
  rw [refInt_eq (by decide)]
  try dsimp only
  rw [refInt_eq (by decide)]
  try dsimp only
  rw [walkInt_eq (by decide)]
  try dsimp only
  rw [br_eq rfl, walkInt_eq (by decide)]
  try dsimp only
  rw [br_eq rfl]
  have e : ((intS 1000 1).1 != (intS 1000 (intS 1000 1).2).1) = true := by kernel_rfl
  rw [e]

/-- tutor/tutorref21.Start -/
def l_tutorref21_Start {R : Type} (seed : Int) (K0 : Int → Option R) : Option R :=
  bi (seed == 0)
   (K0 88172645463325252)
   (K0 seed)

/-- (*tutor/walk.Walk).Int -/
def l_walk_Walk_Int_v1 {R : Type} (n : Int) (K0 : Int → Option R) : Option R :=
  K0 0

/-- tutor/walk.fit -/
def l_walk_fit {R : Type} (k : Int) (low : Int) (high : Int) (K0 : Int → Option R) : Option R :=
  bi (decide (k < 1))
   (K0 1)
   (bi (decide (k > 64))
    (K0 1)
    (bi (decide (low < 0))
     (K0 1)
     (bi (decide (high < low))
      (K0 1)
      (bi (decide (high > 4096))
       (K0 2)
       (K0 0)))))

theorem fit_eq {R : Type} (k low high : Int) (K0 : Int → Option R) : l_walk_fit k low high K0 = K0 (fitS k low high) := by
  unfold l_walk_fit fitS
  simp only [br_if, decide_eq_true_eq]
  repeat' (refine ite_l (fun _ => ?_) (fun _ => ?_))
  all_goals
    refine congrArg K0 ?_
    repeat' (refine ite_r (fun _ => ?_) (fun _ => ?_))
    all_goals omega

/-- (*tutor/walk.Walk).Word -/
def s_walk_Walk_Word_8 {R : Type} (g20_8 : Int → Int → Int → Int → (List Int) → Option R) (K0 : Int → Int → (List Int) → Option R) (k : Int) (x32 : Int) (x33 : Int) (o0 : Int) (o1 : List Int) : Option R :=
  bi (decide (x33 < x32))
   (l_walk_Walk_Int k o0
    (fun r4 r5 =>
     bi (decide (0 ≤ x33 ∧ x33 < ((o1.length : Nat) : Int)))
      (g20_8 k x32 (IntKind.i64.wrap (x33 + 1)) r5 (o1.set x33.toNat r4))
      none))
   (K0 0 o0 o1)

/-- (*tutor/walk.Walk).Word -/
def e_walk_Walk_Word {R : Type} (g20_8 : Int → Int → Int → Int → (List Int) → Option R) (K0 : Int → Int → (List Int) → Option R) (k : Int) (low : Int) (high : Int) (o0 : Int) : Option R :=
  l_walk_fit k low high
   (fun r1 =>
    bi (r1 != 0)
     (K0 r1 o0 ([] : List Int))
     (l_walk_Walk_Int (IntKind.i64.wrap ((IntKind.i64.wrap (high - low)) + 1)) o0
      (fun r2 r3 =>
       bi (decide (0 ≤ (IntKind.i64.wrap (low + r2)) ∧ (IntKind.i64.wrap (low + r2)) ≤ (IntKind.i64.wrap (low + r2)) ∧ (IntKind.i64.wrap (low + r2)) ≤ 1073741824))
        (g20_8 k ((List.replicate (IntKind.i64.wrap (low + r2)).toNat (0 : Int)).length : Int) 0 r3 (List.replicate (IntKind.i64.wrap (low + r2)).toNat (0 : Int)))
        none)))

def run_walk_Walk_Word {R : Type} (K0 : Int → Int → (List Int) → Option R) : Nat → Int → Int → Int → Int → (List Int) → Option R
  | 0 => fun _ _ _ _ _ => none
  | n + 1 => s_walk_Walk_Word_8 (run_walk_Walk_Word K0 n) K0

def l_walk_Walk_Word {R : Type} (k low high x : Int) (K0 : Int → Int → List Int → Option R) : Option R :=
  bi (decide (inI k ∧ inI low ∧ inI high)) (K0 (drawnS k low high x).1 (drawnS k low high x).2.2 (drawnS k low high x).2.1) none

theorem ok_walk_Walk_Word {R : Type} (k low high x : Int) (K0 : Int → Int → List Int → Option R) {r : R} (h : l_walk_Walk_Word k low high x K0 = some r) : ∃ fuel, e_walk_Walk_Word (run_walk_Walk_Word K0 fuel) K0 k low high x = some r := by
  unfold l_walk_Walk_Word at h
  rcases bi_some h with ⟨hs, h⟩ | ⟨_, h⟩
  · obtain ⟨hk, hlo, hhi⟩ := of_decide_eq_true hs
    refine ⟨lenS low high x + 1, ?_⟩
    rw [← h]
    unfold e_walk_Walk_Word drawnS
    rw [fit_eq]
    by_cases hf : fitS k low high = 0
    · obtain ⟨hk1, hf1⟩ := fitS_zero hf
      rw [br_ne' hf, if_neg (by simpa using hf), wr (high - low) (by omega) (by omega), wr (high - low + 1) (by omega) (by omega), walkInt_eq ⟨by omega, by omega⟩]
      obtain ⟨e1, e2⟩ := lenS_in (x := x) hf1
      try dsimp only
      rw [wr (low + (intS (high - low + 1) x).1) (by omega) (by omega), e1, br_pos (by omega), Int.toNat_natCast, List.length_replicate]
      -- place by place
      have key : ∀ (m i : Nat) (l : List Int), i + m = lenS low high x → l = (drawsS k i (intS (high - low + 1) x).2).1 ++ List.replicate m 0 →
          run_walk_Walk_Word K0 (m + 1) k (lenS low high x : Int) (i : Int) (drawsS k i (intS (high - low + 1) x).2).2 l = K0 0 (wordD k low high x).2 (wordD k low high x).1 := by
        intro m
        induction m with
        | zero =>
          intro i l hi hl
          show s_walk_Walk_Word_8 _ _ _ _ _ _ _ = _
          unfold s_walk_Walk_Word_8
          rw [br_neg (by omega), hl]
          unfold wordD
          rw [← hi]
          simp
        | succ m ih =>
          intro i l hi hl
          show s_walk_Walk_Word_8 (run_walk_Walk_Word K0 (m + 1)) _ _ _ _ _ _ = _
          unfold s_walk_Walk_Word_8
          have hlen : l.length = i + (m + 1) := by rw [hl]; simp [drawsS_len]
          rw [br_pos (by omega), walkInt_eq hk]
          try dsimp only
          rw [br_pos (by omega), wr _ (by omega) (by omega), Int.toNat_natCast]
          refine ih (i + 1) _ (by omega) ?_
          rw [hl, List.set_append_right _ _ (by rw [drawsS_len]; omega), drawsS_len]
          simp [drawsS, List.replicate_succ]
      exact key (lenS low high x) 0 _ (by omega) (by simp [drawsS])
    · rw [br_ne hf, if_pos (by simpa using hf)]
  · cases h
theorem walkWord_eq {R : Type} {k low high x : Int} (h : inI k ∧ inI low ∧ inI high) (K0 : Int → Int → List Int → Option R) :
    l_walk_Walk_Word k low high x K0 = K0 (drawnS k low high x).1 (drawnS k low high x).2.2 (drawnS k low high x).2.1 := by
  unfold l_walk_Walk_Word
  rw [br_pos h]

/-- tutor/tutorref21.fit -/
def l_tutorref21_fit {R : Type} (k : Int) (low : Int) (high : Int) (K0 : Int → Option R) : Option R :=
  bi (decide (k < 1))
   (K0 1)
   (bi (decide (k > 64))
    (K0 1)
    (bi (decide (low < 0))
     (K0 1)
     (bi (decide (high < low))
      (K0 1)
      (bi (decide (high > 4096))
       (K0 2)
       (K0 0)))))

theorem fitR_eq {R : Type} (k low high : Int) (K0 : Int → Option R) : l_tutorref21_fit k low high K0 = K0 (fitS k low high) := by
  unfold l_tutorref21_fit fitS
  simp only [br_if, decide_eq_true_eq]
  repeat' (refine ite_l (fun _ => ?_) (fun _ => ?_))
  all_goals
    refine congrArg K0 ?_
    repeat' (refine ite_r (fun _ => ?_) (fun _ => ?_))
    all_goals omega

/-- tutor/tutorref21.Word -/
def s_tutorref21_Word_7 {R : Type} (g21_7 : Int → Int → Int → Int → Int → (List Int) → Option R) (K0 : Int → Int → (List Int) → Option R) (x : Int) (k : Int) (low : Int) (n : Int) (i : Int) (o0 : List Int) : Option R :=
  bi (decide (i < (IntKind.i64.wrap (low + n))))
   (l_tutorref21_Int x k
    (fun r4 r5 =>
     bi (decide ((o0.length + [r4].length) * 8 ≤ lim))
      (g21_7 r5 k low n (IntKind.i64.wrap (i + 1)) (o0 ++ [r4]))
      none))
   (K0 x 0 o0)

/-- tutor/tutorref21.Word -/
def e_tutorref21_Word {R : Type} (g21_7 : Int → Int → Int → Int → Int → (List Int) → Option R) (K0 : Int → Int → (List Int) → Option R) (x : Int) (k : Int) (low : Int) (high : Int) : Option R :=
  l_tutorref21_fit k low high
   (fun r1 =>
    bi (r1 != 0)
     (K0 x r1 ([] : List Int))
     (l_tutorref21_Int x (IntKind.i64.wrap ((IntKind.i64.wrap (high - low)) + 1))
      (fun r2 r3 =>
       g21_7 r3 k low r2 0 ([] : List Int))))

def run_tutorref21_Word {R : Type} (K0 : Int → Int → (List Int) → Option R) : Nat → Int → Int → Int → Int → Int → (List Int) → Option R
  | 0 => fun _ _ _ _ _ _ => none
  | n + 1 => s_tutorref21_Word_7 (run_tutorref21_Word K0 n) K0

def l_tutorref21_Word {R : Type} (x k low high : Int) (K0 : Int → Int → List Int → Option R) : Option R :=
  bi (decide (inI k ∧ inI low ∧ inI high)) (K0 (drawnS k low high x).2.2 (drawnS k low high x).1 (drawnS k low high x).2.1) none

theorem ok_tutorref21_Word {R : Type} (x k low high : Int) (K0 : Int → Int → List Int → Option R) {r : R} (h : l_tutorref21_Word x k low high K0 = some r) : ∃ fuel, e_tutorref21_Word (run_tutorref21_Word K0 fuel) K0 x k low high = some r := by
  unfold l_tutorref21_Word at h
  rcases bi_some h with ⟨hs, h⟩ | ⟨_, h⟩
  · obtain ⟨hk, hlo, hhi⟩ := of_decide_eq_true hs
    refine ⟨lenS low high x + 1, ?_⟩
    rw [← h]
    unfold e_tutorref21_Word drawnS
    rw [fitR_eq]
    by_cases hf : fitS k low high = 0
    · obtain ⟨hk1, hf1⟩ := fitS_zero hf
      rw [br_ne' hf, if_neg (by simpa using hf), wr (high - low) (by omega) (by omega), wr (high - low + 1) (by omega) (by omega), refInt_eq ⟨by omega, by omega⟩]
      obtain ⟨e1, e2⟩ := lenS_in (x := x) hf1
      try dsimp only
      have key : ∀ (m i : Nat), i + m = lenS low high x →
          run_tutorref21_Word K0 (m + 1) (drawsS k i (intS (high - low + 1) x).2).2 k low (intS (high - low + 1) x).1 (i : Int) (drawsS k i (intS (high - low + 1) x).2).1 = K0 (wordD k low high x).2 0 (wordD k low high x).1 := by
        intro m
        induction m with
        | zero =>
          intro i hi
          show s_tutorref21_Word_7 _ _ _ _ _ _ _ _ = _
          unfold s_tutorref21_Word_7
          rw [wr (low + (intS (high - low + 1) x).1) (by omega) (by omega), e1, br_neg (by omega)]
          unfold wordD
          rw [← hi]
          simp
        | succ m ih =>
          intro i hi
          show s_tutorref21_Word_7 (run_tutorref21_Word K0 (m + 1)) _ _ _ _ _ _ _ = _
          unfold s_tutorref21_Word_7
          rw [wr (low + (intS (high - low + 1) x).1) (by omega) (by omega), e1, br_pos (by omega), refInt_eq hk]
          try dsimp only
          rw [br_pos (by rw [drawsS_len]; simp [lim]; omega), wr _ (by omega) (by omega)]
          exact ih (i + 1) (by omega)
      exact key (lenS low high x) 0 (by omega)
    · rw [br_ne hf, if_pos (by simpa using hf)]
  · cases h
theorem refWord_eq {R : Type} {k low high x : Int} (h : inI k ∧ inI low ∧ inI high) (K0 : Int → Int → List Int → Option R) :
    l_tutorref21_Word x k low high K0 = K0 (drawnS k low high x).2.2 (drawnS k low high x).1 (drawnS k low high x).2.1 := by
  unfold l_tutorref21_Word
  rw [br_pos h]

/-- (*tutor/walk.Walk).Word -/
def l_walk_Walk_Word_v1 {R : Type} (k : Int) (low : Int) (high : Int) (K0 : Int → (List Int) → Option R) : Option R :=
  K0 1 ([] : List Int)

/-- tutor/tutorref01.Same -/
def s_tutorref01_Same_4 {R : Type} (g22_4 : (List Int) → (List Int) → Int → Option R) (K0 : Bool → Option R) (a : List Int) (b : List Int) (i : Int) : Option R :=
  bi (decide (i < (a.length : Int)))
   (bi (decide (0 ≤ i ∧ i < ((a.length : Nat) : Int)))
    (bi (decide (0 ≤ i ∧ i < ((b.length : Nat) : Int)))
     (bi ((a.getD i.toNat 0) != (b.getD i.toNat 0))
      (K0 false)
      (g22_4 a b (IntKind.i64.wrap (i + 1))))
     none)
    none)
   (K0 true)

/-- tutor/tutorref01.Same -/
def e_tutorref01_Same {R : Type} (g22_4 : (List Int) → (List Int) → Int → Option R) (K0 : Bool → Option R) (a : List Int) (b : List Int) : Option R :=
  bi ((a.length : Int) != (b.length : Int))
   (K0 false)
   (g22_4 a b 0)

def run_tutorref01_Same {R : Type} (K0 : Bool → Option R) : Nat → (List Int) → (List Int) → Int → Option R
  | 0 => fun _ _ _ => none
  | n + 1 => s_tutorref01_Same_4 (run_tutorref01_Same K0 n) K0

def l_tutorref01_Same {R : Type} (a : List Int) (b : List Int) (K0 : Bool → Option R) : Option R := bi (decide (short a)) (K0 (decide (a = b))) none

theorem findP_zip {a b : List Int} (hl : a.length = b.length) : findP (fun i => a.getD i 0 != b.getD i 0) (List.range a.length) = none ↔ a = b := by
  rw [findP_none]
  constructor
  · intro h
    refine List.ext_getElem hl fun i h1 h2 => ?_
    have := h i (by simpa using h1)
    rw [getD_of 0 h1, getD_of 0 h2] at this
    simpa using this
  · rintro rfl i _
    simp

theorem ok_tutorref01_Same {R : Type} (a : List Int) (b : List Int) (K0 : Bool → Option R) {r : R} (h : l_tutorref01_Same a b K0 = some r) : ∃ fuel, e_tutorref01_Same (run_tutorref01_Same K0 fuel) K0 a b = some r := by
  unfold l_tutorref01_Same at h
  rcases bi_some h with ⟨hs, h⟩ | ⟨_, h⟩
  · have hs : a.length < 4611686018427387904 := of_decide_eq_true hs
    refine ⟨a.length + 1, ?_⟩
    rw [← h]
    unfold e_tutorref01_Same
    by_cases hl : a.length = b.length
    · rw [br_ne' (by omega)]
      have key := scan_all (F := fun m i => run_tutorref01_Same K0 m a b (i : Int)) (fun i => a.getD i 0 != b.getD i 0) (l := List.range a.length) (A := fun i => K0 false) (B := K0 true)
        (fun m => by
          show s_tutorref01_Same_4 _ _ _ _ _ = _
          unfold s_tutorref01_Same_4
          rw [List.length_range, br_neg (by omega)])
        (fun m i hi => by
          rw [List.length_range] at hi
          show s_tutorref01_Same_4 _ _ _ _ _ = _
          unfold s_tutorref01_Same_4
          rw [br_pos (by omega), br_pos (by omega), br_pos (by omega), br_if, Int.toNat_natCast, wr _ (by omega) (by omega), List.getElem_range]
          rfl)
      rw [List.length_range] at key
      refine key.trans ?_
      by_cases e : a = b
      · rw [(findP_zip hl).2 e]
        simp [e]
      · have : findP (fun i => a.getD i 0 != b.getD i 0) (List.range a.length) ≠ none := fun h => e ((findP_zip hl).1 h)
        cases hf : findP (fun i => a.getD i 0 != b.getD i 0) (List.range a.length) with
        | none => exact absurd hf this
        | some j => simp [e]
    · rw [br_ne (by omega)]
      have e : a ≠ b := fun e => hl (by rw [e])
      simp [e]
  · cases h

theorem same_eq {R : Type} {a b : List Int} (h : short a) (K0 : Bool → Option R) : l_tutorref01_Same a b K0 = K0 (decide (a = b)) := by
  unfold l_tutorref01_Same
  rw [br_pos h]

/-- tutor/tutorlaw21.num -/
def l_tutorlaw21_num {R : Type} (e : Int) (K0 : Int → Option R) : Option R :=
  K0 e

/-- tutor/tutorlaw21.WalkDraws -/
def s_tutorlaw21_WalkDraws_9 {R : Type} (g3_9 : (List (Bool × (Int × (Int × Int)))) → Int → Int → Int → Option R) (K0 : Bool → Option R) (l : List (Bool × (Int × (Int × Int)))) (x : Int) (i : Int) (o0 : Int) : Option R :=
  bi (decide (i < (l.length : Int)))
   (bi (decide (0 ≤ i ∧ i < ((l.length : Nat) : Int)))
    (bi (!((l.getD i.toNat (false, (0, (0, 0)))).1))
     (bi (decide (0 ≤ i ∧ i < ((l.length : Nat) : Int)))
      (l_tutorref21_Int x (((l.getD i.toNat (false, (0, (0, 0)))).2).1)
       (fun r4 r5 =>
        bi (decide (0 ≤ i ∧ i < ((l.length : Nat) : Int)))
         (l_walk_Walk_Int (((l.getD i.toNat (false, (0, (0, 0)))).2).1) o0
          (fun r6 r7 =>
           bi (r6 != r4)
            (K0 false)
            (bi (decide (0 ≤ i ∧ i < ((l.length : Nat) : Int)))
             (l_walk_Walk_Int_v1 (((l.getD i.toNat (false, (0, (0, 0)))).2).1)
              (fun r8 =>
               bi (r8 != 0)
                (K0 false)
                (g3_9 l r5 (IntKind.i64.wrap (i + 1)) r7)))
             none)))
         none))
      none)
     (bi (decide (0 ≤ i ∧ i < ((l.length : Nat) : Int)))
      (bi (decide (0 ≤ i ∧ i < ((l.length : Nat) : Int)))
       (bi (decide (0 ≤ i ∧ i < ((l.length : Nat) : Int)))
        (l_walk_Walk_Word (((l.getD i.toNat (false, (0, (0, 0)))).2).1) ((((l.getD i.toNat (false, (0, (0, 0)))).2).2).1) ((((l.getD i.toNat (false, (0, (0, 0)))).2).2).2) o0
         (fun r9 r10 r11 =>
          bi (decide (0 ≤ i ∧ i < ((l.length : Nat) : Int)))
           (bi (decide (0 ≤ i ∧ i < ((l.length : Nat) : Int)))
            (bi (decide (0 ≤ i ∧ i < ((l.length : Nat) : Int)))
             (l_tutorref21_Word x (((l.getD i.toNat (false, (0, (0, 0)))).2).1) ((((l.getD i.toNat (false, (0, (0, 0)))).2).2).1) ((((l.getD i.toNat (false, (0, (0, 0)))).2).2).2)
              (fun r12 r13 r14 =>
               bi (decide (0 ≤ i ∧ i < ((l.length : Nat) : Int)))
                (bi (decide (0 ≤ i ∧ i < ((l.length : Nat) : Int)))
                 (bi (decide (0 ≤ i ∧ i < ((l.length : Nat) : Int)))
                  (l_walk_Walk_Word_v1 (((l.getD i.toNat (false, (0, (0, 0)))).2).1) ((((l.getD i.toNat (false, (0, (0, 0)))).2).2).1) ((((l.getD i.toNat (false, (0, (0, 0)))).2).2).2)
                   (fun r15 r16 =>
                    l_tutorref01_Same r11 r14
                     (fun r17 =>
                      bi (!r17)
                       (K0 false)
                       (l_tutorlaw21_num r9
                        (fun r18 =>
                         bi (r18 != r13)
                          (K0 false)
                          (bi ((r16.length : Int) != 0)
                           (K0 false)
                           (l_tutorlaw21_num r15
                            (fun r19 =>
                             bi (r19 != 1)
                              (K0 false)
                              (g3_9 l r12 (IntKind.i64.wrap (i + 1)) r10)))))))))
                  none)
                 none)
                none))
             none)
            none)
           none))
        none)
       none)
      none))
    none)
   (l_tutorlaw21_live
    (fun r20 =>
     K0 r20))

/-- tutor/tutorlaw21.WalkDraws -/
def e_tutorlaw21_WalkDraws {R : Type} (g3_9 : (List (Bool × (Int × (Int × Int)))) → Int → Int → Int → Option R) (K0 : Bool → Option R) (seed : Int) (l : List (Bool × (Int × (Int × Int)))) : Option R :=
  bi (decide ((l.length : Int) > 100))
   (l_tutorlaw21_live
    (fun r1 =>
     K0 r1))
   (l_walk_New seed
    (fun r2 =>
     l_tutorref21_Start seed
      (fun r3 =>
       g3_9 l r3 0 r2)))

def run_tutorlaw21_WalkDraws {R : Type} (K0 : Bool → Option R) : Nat → (List (Bool × (Int × (Int × Int)))) → Int → Int → Int → Option R
  | 0 => fun _ _ _ _ => none
  | n + 1 => s_tutorlaw21_WalkDraws_9 (run_tutorlaw21_WalkDraws K0 n) K0

theorem drawnS_len {k low high x : Int} : (drawnS k low high x).2.1.length ≤ 4096 := by
  unfold drawnS
  split
  · simp
  · rename_i h
    have h : fitS k low high = 0 := by omega
    have := (lenS_in (x := x) (fitS_zero h).2).2
    show (drawsS k (lenS low high x) _).1.length ≤ 4096
    rw [drawsS_len]
    exact this
def actsOk (l : List (Bool × (Int × (Int × Int)))) : Prop := ∀ a ∈ l, inI a.2.1 ∧ inI a.2.2.1 ∧ inI a.2.2.2
instance (l : List (Bool × (Int × (Int × Int)))) : Decidable (actsOk l) := by unfold actsOk; infer_instance
def l_tutorlaw21_WalkDraws {R : Type} (seed : Int) (l : List (Bool × (Int × (Int × Int)))) (K0 : Bool → Option R) : Option R := bi (decide (actsOk l)) (K0 true) none

theorem ok_tutorlaw21_WalkDraws {R : Type} (seed : Int) (l : List (Bool × (Int × (Int × Int)))) (K0 : Bool → Option R) {r : R} (h : l_tutorlaw21_WalkDraws seed l K0 = some r) :
    ∃ fuel, e_tutorlaw21_WalkDraws (run_tutorlaw21_WalkDraws K0 fuel) K0 seed l = some r := by
  unfold l_tutorlaw21_WalkDraws at h
  rcases bi_some h with ⟨hs, h⟩ | ⟨_, h⟩
  · have hs : actsOk l := of_decide_eq_true hs
    refine ⟨l.length + 1, ?_⟩
    rw [← h]
    unfold e_tutorlaw21_WalkDraws
    by_cases hl : (l.length : Int) > 100
    · rw [br_pos hl, live21]
    rw [br_neg hl]
    have key : ∀ (m i : Nat) (x : Int), i + m = l.length → run_tutorlaw21_WalkDraws K0 (m + 1) l x (i : Int) x = K0 true := by
      intro m
      induction m with
      | zero =>
        intro i x hi
        show s_tutorlaw21_WalkDraws_9 _ _ _ _ _ _ = _
        unfold s_tutorlaw21_WalkDraws_9
        rw [br_neg (by omega), live21]
      | succ m ih =>
        intro i x hi
        have hil : i < l.length := by omega
        obtain ⟨h1, h2, h3⟩ := hs _ (List.getElem_mem hil)
        show s_tutorlaw21_WalkDraws_9 (run_tutorlaw21_WalkDraws K0 (m + 1)) _ _ _ _ _ = _
        unfold s_tutorlaw21_WalkDraws_9
        rw [Int.toNat_natCast, getD_of _ hil]
        generalize l[i] = a at h1 h2 h3
        have hin : 0 ≤ (i : Int) ∧ (i : Int) < ((l.length : Nat) : Int) := by omega
        rw [br_pos (by omega)]
        simp only [br_pos hin]
        have hwi : IntKind.i64.wrap ((i : Int) + 1) = ((i + 1 : Nat) : Int) := by rw [wr _ (by omega) (by omega)]; rfl
        cases hw : a.1 with
        | false =>
          simp only [Bool.not_false, br_tt]
          rw [refInt_eq h1]
          try dsimp only
          rw [walkInt_eq h1]
          try dsimp only
          rw [br_ne' rfl]
          unfold l_walk_Walk_Int_v1
          try dsimp only
          rw [br_ne' rfl, hwi]
          exact ih (i + 1) _ (by omega)
        | true =>
          simp only [Bool.not_true, br_ff]
          rw [walkWord_eq ⟨h1, h2, h3⟩]
          try dsimp only
          rw [refWord_eq ⟨h1, h2, h3⟩]
          try dsimp only
          unfold l_walk_Walk_Word_v1
          try dsimp only
          rw [same_eq (by unfold short; have := @drawnS_len a.2.1 a.2.2.1 a.2.2.2 x; omega)]
          simp only [decide_true, Bool.not_true, br_ff, l_tutorlaw21_num]
          rw [br_ne' rfl, br_ne' (by simp), br_ne' rfl, hwi]
          exact ih (i + 1) _ (by omega)
    unfold l_walk_New l_tutorref21_Start
    by_cases h0 : seed = 0
    · rw [br_eq h0]
      try dsimp only
      rw [br_eq h0]
      exact key l.length 0 _ (by omega)
    · rw [br_eq' h0]
      try dsimp only
      rw [br_eq' h0]
      exact key l.length 0 _ (by omega)
  · cases h

theorem law_tutorlaw21_WalkDraws {R : Type} (seed : Int) (l : List (Bool × (Int × (Int × Int)))) (K0 : Bool → Option R) (hs : inU seed) (hl : l.length ≤ 140737488351232 ∧ ∀ a ∈ l, True ∧ inI a.2.1 ∧ inI a.2.2.1 ∧ inI a.2.2.2) :
    l_tutorlaw21_WalkDraws seed l K0 = K0 true := by
  unfold l_tutorlaw21_WalkDraws
  have e : actsOk l := fun a ha => (hl.2 a ha).2
  rw [br_pos e]

end Go.Ev
