/- Functions of the program, as trees of tests over numbers and lists; no program in sight. -/
import Derived.Test.YtlbomliaegmnpaaEvWord
namespace Go.Ev
noncomputable section
set_option linter.unusedVariables false
set_option linter.unusedSimpArgs false
set_option maxRecDepth 100000
set_option maxHeartbeats 4000000

/-- tutor/point.New -/
def l_point_New {R : Type} (how : Int) (n : Int) (K0 : Int → Option R) (K1 : Int → Int → Int → Int → Option R) (K2 : Int → Int → Int → Int → Option R) (K3 : Int → Int → Int → Int → Int → Bool → Option R) : Option R :=
  bi (how == 1)
   (bi (decide (n < 1))
    (K0 1)
    (bi (decide (n > 4096))
     (K0 3)
     (K1 0 0 n 0)))
   (bi (how == 2)
    (bi (decide (n < 1))
     (K0 1)
     (bi (decide (n > 4096))
      (K0 3)
      (K2 0 0 n 0)))
    (bi (how == 3)
     (bi (decide (n < 1))
      (K0 1)
      (bi (decide (n > 4096))
       (K0 3)
       (K3 0 0 n 0 1 false)))
     (K0 1)))

theorem new_eq {R : Type} {how n : Int} (h : how = 1 ∨ how = 2 ∨ how = 3) (hn : 1 ≤ n ∧ n ≤ 4096) (K0 : Int → Option R) (K1 K2 : Int → Int → Int → Int → Option R) (K3 : Int → Int → Int → Int → Int → Bool → Option R) :
    l_point_New how n K0 K1 K2 K3 = if how = 1 then K1 0 0 n 0 else if how = 2 then K2 0 0 n 0 else K3 0 0 n 0 1 false := by
  unfold l_point_New
  rcases h with rfl | rfl | rfl
  · rw [br_eq rfl, br_neg (by omega), br_neg (by omega)]
    rfl
  · rw [br_eq' (by decide), br_eq rfl, br_neg (by omega), br_neg (by omega)]
    rfl
  · rw [br_eq' (by decide), br_eq' (by decide), br_eq rfl, br_neg (by omega), br_neg (by omega)]
    rfl

/-- tutor/tutorlaw12.num -/
def l_tutorlaw12_num {R : Type} (e : Int) (K0 : Int → Option R) : Option R :=
  K0 e

/-- (*tutor/point.Search).ended -/
def l_point_Search_ended_linear {R : Type} (o0 : Int) (o0_1 : Int) (o0_2 : Int) (K0 : Bool → Int → Int → Int → Option R) : Option R :=
  K0 (o0_1 == (IntKind.i64.wrap (o0 + 1))) o0 o0_1 o0_2

/-- (tutor/point.linear).next -/
def l_point_linear_next {R : Type} (s : Int) (s_1 : Int) (K0 : Int → Option R) : Option R :=
  K0 (IntKind.i64.wrap (s + 1))

/-- (*tutor/point.Search).Ask -/
def l_point_Search_Ask_linear {R : Type} (o0 : Int) (o0_1 : Int) (o0_2 : Int) (K0 : Int → Bool → Int → Int → Int → Option R) : Option R :=
  l_point_Search_ended_linear o0 o0_1 o0_2
   (fun r1 r2 r3 r4 =>
    bi r1
     (K0 0 false r2 r3 r4)
     (l_point_linear_next r2 r3
      (fun r5 =>
       K0 r5 true r2 r3 r4)))

/-- (*tutor/point.Search).Tell -/
def l_point_Search_Tell_linear {R : Type} (v : Bool) (o0 : Int) (o0_1 : Int) (o0_2 : Int) (K0 : Int → Int → Int → Int → Option R) : Option R :=
  l_point_Search_Ask_linear o0 o0_1 o0_2
   (fun r1 r2 r3 r4 r5 =>
    bi (!r2)
     (K0 7 r3 r4 r5)
     (bi v
      (K0 0 r3 r1 (IntKind.i64.wrap (r5 + 1)))
      (K0 0 r1 r4 (IntKind.i64.wrap (r5 + 1)))))

/-- (*tutor/point.Search).Found -/
def l_point_Search_Found_linear {R : Type} (o0 : Int) (o0_1 : Int) (o0_2 : Int) (K0 : Int → Bool → Int → Int → Int → Option R) : Option R :=
  l_point_Search_ended_linear o0 o0_1 o0_2
   (fun r1 r2 r3 r4 =>
    bi (!r1)
     (K0 0 false r2 r3 r4)
     (K0 r2 true r2 r3 r4))

/-- (*tutor/point.Search).Asked -/
def l_point_Search_Asked_linear {R : Type} (o0 : Int) (o0_1 : Int) (o0_2 : Int) (K0 : Int → Int → Int → Int → Option R) : Option R :=
  K0 o0_2 o0 o0_1 o0_2

/-- (*tutor/point.Search).ended -/
def l_point_Search_ended_binary {R : Type} (o0 : Int) (o0_1 : Int) (o0_2 : Int) (K0 : Bool → Int → Int → Int → Option R) : Option R :=
  K0 (o0_1 == (IntKind.i64.wrap (o0 + 1))) o0 o0_1 o0_2

/-- (tutor/point.binary).next -/
def l_point_binary_next {R : Type} (s : Int) (s_1 : Int) (K0 : Int → Option R) : Option R :=
  K0 (IntKind.i64.wrap (s + (IntKind.i64.wrap ((IntKind.i64.wrap (s_1 - s)).tdiv 2))))

/-- (*tutor/point.Search).Ask -/
def l_point_Search_Ask_binary {R : Type} (o0 : Int) (o0_1 : Int) (o0_2 : Int) (K0 : Int → Bool → Int → Int → Int → Option R) : Option R :=
  l_point_Search_ended_binary o0 o0_1 o0_2
   (fun r1 r2 r3 r4 =>
    bi r1
     (K0 0 false r2 r3 r4)
     (l_point_binary_next r2 r3
      (fun r5 =>
       K0 r5 true r2 r3 r4)))

/-- (tutor/point.binary).told -/
def l_point_binary_told {R : Type} (x1 : Bool) (K0 : Option R) : Option R :=
  K0

/-- (*tutor/point.Search).Tell -/
def l_point_Search_Tell_binary {R : Type} (v : Bool) (o0 : Int) (o0_1 : Int) (o0_2 : Int) (K0 : Int → Int → Int → Int → Option R) : Option R :=
  l_point_Search_Ask_binary o0 o0_1 o0_2
   (fun r1 r2 r3 r4 r5 =>
    bi (!r2)
     (K0 7 r3 r4 r5)
     (bi v
      (l_point_binary_told v
       (K0 0 r3 r1 (IntKind.i64.wrap (r5 + 1))))
      (l_point_binary_told v
       (K0 0 r1 r4 (IntKind.i64.wrap (r5 + 1))))))

/-- (*tutor/point.Search).Found -/
def l_point_Search_Found_binary {R : Type} (o0 : Int) (o0_1 : Int) (o0_2 : Int) (K0 : Int → Bool → Int → Int → Int → Option R) : Option R :=
  l_point_Search_ended_binary o0 o0_1 o0_2
   (fun r1 r2 r3 r4 =>
    bi (!r1)
     (K0 0 false r2 r3 r4)
     (K0 r2 true r2 r3 r4))

/-- (*tutor/point.Search).Asked -/
def l_point_Search_Asked_binary {R : Type} (o0 : Int) (o0_1 : Int) (o0_2 : Int) (K0 : Int → Int → Int → Int → Option R) : Option R :=
  K0 o0_2 o0 o0_1 o0_2

/-- (*tutor/point.Search).ended -/
def l_point_Search_ended_exponential {R : Type} (o0 : Int) (o0_1 : Int) (o0_2 : Int) (o1 : Int) (o1_1 : Bool) (K0 : Bool → Int → Int → Int → Int → Bool → Option R) : Option R :=
  K0 (o0_1 == (IntKind.i64.wrap (o0 + 1))) o0 o0_1 o0_2 o1 o1_1

/-- (*tutor/point.exponential).next -/
def l_point_exponential_next {R : Type} (s : Int) (s_1 : Int) (o0 : Int) (o0_1 : Bool) (K0 : Int → Int → Bool → Option R) : Option R :=
  bi o0_1
   (l_point_binary_next s s_1
    (fun r1 =>
     K0 r1 o0 o0_1))
   (K0 (if (IntKind.i64.wrap (s + 1)) > (IntKind.i64.wrap (s_1 - o0)) then (IntKind.i64.wrap (s + 1)) else (IntKind.i64.wrap (s_1 - o0))) o0 o0_1)

/-- (*tutor/point.Search).Ask -/
def l_point_Search_Ask_exponential {R : Type} (o0 : Int) (o0_1 : Int) (o0_2 : Int) (o1 : Int) (o1_1 : Bool) (K0 : Int → Bool → Int → Int → Int → Int → Bool → Option R) : Option R :=
  l_point_Search_ended_exponential o0 o0_1 o0_2 o1 o1_1
   (fun r1 r2 r3 r4 r5 r6 =>
    bi r1
     (K0 0 false r2 r3 r4 r5 r6)
     (l_point_exponential_next r2 r3 r5 r6
      (fun r7 r8 r9 =>
       K0 r7 true r2 r3 r4 r8 r9)))

/-- (*tutor/point.exponential).told -/
def l_point_exponential_told {R : Type} (v : Bool) (o0 : Int) (o0_1 : Bool) (K0 : Int → Bool → Option R) : Option R :=
  bi o0_1
   (K0 (IntKind.i64.wrap (o0 * 2)) true)
   (K0 (IntKind.i64.wrap (o0 * 2)) (!v))

/-- (*tutor/point.Search).Tell -/
def l_point_Search_Tell_exponential {R : Type} (v : Bool) (o0 : Int) (o0_1 : Int) (o0_2 : Int) (o1 : Int) (o1_1 : Bool) (K0 : Int → Int → Int → Int → Int → Bool → Option R) : Option R :=
  l_point_Search_Ask_exponential o0 o0_1 o0_2 o1 o1_1
   (fun r1 r2 r3 r4 r5 r6 r7 =>
    bi (!r2)
     (K0 7 r3 r4 r5 r6 r7)
     (bi v
      (l_point_exponential_told v r6 r7
       (fun r8 r9 =>
        K0 0 r3 r1 (IntKind.i64.wrap (r5 + 1)) r8 r9))
      (l_point_exponential_told v r6 r7
       (fun r10 r11 =>
        K0 0 r1 r4 (IntKind.i64.wrap (r5 + 1)) r10 r11))))

/-- (*tutor/point.Search).Found -/
def l_point_Search_Found_exponential {R : Type} (o0 : Int) (o0_1 : Int) (o0_2 : Int) (o1 : Int) (o1_1 : Bool) (K0 : Int → Bool → Int → Int → Int → Int → Bool → Option R) : Option R :=
  l_point_Search_ended_exponential o0 o0_1 o0_2 o1 o1_1
   (fun r1 r2 r3 r4 r5 r6 =>
    bi (!r1)
     (K0 0 false r2 r3 r4 r5 r6)
     (K0 r2 true r2 r3 r4 r5 r6))

/-- (*tutor/point.Search).Asked -/
def l_point_Search_Asked_exponential {R : Type} (o0 : Int) (o0_1 : Int) (o0_2 : Int) (o1 : Int) (o1_1 : Bool) (K0 : Int → Int → Int → Int → Int → Bool → Option R) : Option R :=
  K0 o0_2 o0 o0_1 o0_2 o1 o1_1

theorem ask1 {R : Type} {lo hi as : Int} (h : 0 ≤ lo ∧ lo ≤ 4096) (K : Int → Bool → Int → Int → Int → Option R) :
    l_point_Search_Ask_linear lo hi as K = if hi = lo + 1 then K 0 false lo hi as else K (lo + 1) true lo hi as := by
  unfold l_point_Search_Ask_linear l_point_Search_ended_linear l_point_linear_next
  try dsimp only
  rw [wr _ (by omega) (by omega)]
  by_cases c : hi = lo + 1
  · rw [br_eq c, if_pos c]
  · rw [br_eq' c, if_neg c]
theorem tell1 {R : Type} {v : Bool} {lo hi as : Int} (h : 0 ≤ lo ∧ lo ≤ 4096) (c : hi ≠ lo + 1) (K : Int → Int → Int → Int → Option R) :
    l_point_Search_Tell_linear v lo hi as K = K 0 (if v = true then lo else lo + 1) (if v = true then lo + 1 else hi) (IntKind.i64.wrap (as + 1)) := by
  unfold l_point_Search_Tell_linear
  rw [ask1 h, if_neg c]
  cases v <;> rfl
theorem found1 {R : Type} {lo hi as : Int} (h : 0 ≤ lo ∧ lo ≤ 4096) (c : hi = lo + 1) (K : Int → Bool → Int → Int → Int → Option R) :
    l_point_Search_Found_linear lo hi as K = K lo true lo hi as := by
  unfold l_point_Search_Found_linear l_point_Search_ended_linear
  rw [wr _ (by omega) (by omega)]
  have e : (hi == lo + 1) = true := by simp [c]
  rw [e]
  rfl
def midS (lo hi : Int) : Int := lo + (hi - lo).tdiv 2
theorem midS_eq {lo hi : Int} (h : 0 ≤ lo ∧ lo < hi) : midS lo hi = lo + (hi - lo) / 2 := by
  unfold midS
  rw [Int.tdiv_eq_ediv_of_nonneg (by omega)]
theorem bin_next {R : Type} {lo hi : Int} (h : 0 ≤ lo ∧ lo < hi ∧ hi ≤ 4096) (K : Int → Option R) : l_point_binary_next lo hi K = K (midS lo hi) := by
  unfold l_point_binary_next
  try dsimp only
  have e := midS_eq (lo := lo) (hi := hi) (by omega)
  have e2 : (hi - lo).tdiv 2 = (hi - lo) / 2 := Int.tdiv_eq_ediv_of_nonneg (by omega)
  rw [wr (hi - lo) (by omega) (by omega), e2, wr ((hi - lo) / 2) (by omega) (by omega), wr _ (by omega) (by omega), e]
theorem ask2 {R : Type} {lo hi as : Int} (h : 0 ≤ lo ∧ lo < hi ∧ hi ≤ 4096) (K : Int → Bool → Int → Int → Int → Option R) :
    l_point_Search_Ask_binary lo hi as K = if hi = lo + 1 then K 0 false lo hi as else K (midS lo hi) true lo hi as := by
  unfold l_point_Search_Ask_binary l_point_Search_ended_binary
  try dsimp only
  rw [wr _ (by omega) (by omega), bin_next h]
  by_cases c : hi = lo + 1
  · rw [br_eq c, if_pos c]
  · rw [br_eq' c, if_neg c]
theorem tell2 {R : Type} {v : Bool} {lo hi as : Int} (h : 0 ≤ lo ∧ lo < hi ∧ hi ≤ 4096) (c : hi ≠ lo + 1) (K : Int → Int → Int → Int → Option R) :
    l_point_Search_Tell_binary v lo hi as K = K 0 (if v = true then lo else midS lo hi) (if v = true then midS lo hi else hi) (IntKind.i64.wrap (as + 1)) := by
  unfold l_point_Search_Tell_binary
  rw [ask2 h, if_neg c]
  cases v <;> rfl
theorem found2 {R : Type} {lo hi as : Int} (h : 0 ≤ lo ∧ lo ≤ 4096) (c : hi = lo + 1) (K : Int → Bool → Int → Int → Int → Option R) :
    l_point_Search_Found_binary lo hi as K = K lo true lo hi as := by
  unfold l_point_Search_Found_binary l_point_Search_ended_binary
  rw [wr _ (by omega) (by omega)]
  have e : (hi == lo + 1) = true := by simp [c]
  rw [e]
  rfl
def nextS3 (lo hi st : Int) (no : Bool) : Int := if no = true then midS lo hi else if lo + 1 > hi - st then lo + 1 else hi - st
theorem exp_next {R : Type} {lo hi st : Int} {no : Bool} (h : 0 ≤ lo ∧ lo < hi ∧ hi ≤ 4096) (hs : no = false → 1 ≤ st ∧ st ≤ 8192) (K : Int → Int → Bool → Option R) :
    l_point_exponential_next lo hi st no K = K (nextS3 lo hi st no) st no := by
  unfold l_point_exponential_next nextS3
  try dsimp only
  rw [bin_next h]
  cases no with
  | true => rfl
  | false =>
    have hs := hs rfl
    rw [wr (lo + 1) (by omega) (by omega), wr (hi - st) (by omega) (by omega)]
    rfl
theorem ask3 {R : Type} {lo hi as st : Int} {no : Bool} (h : 0 ≤ lo ∧ lo < hi ∧ hi ≤ 4096) (hs : hi ≠ lo + 1 → no = false → 1 ≤ st ∧ st ≤ 8192) (K : Int → Bool → Int → Int → Int → Int → Bool → Option R) :
    l_point_Search_Ask_exponential lo hi as st no K = if hi = lo + 1 then K 0 false lo hi as st no else K (nextS3 lo hi st no) true lo hi as st no := by
  unfold l_point_Search_Ask_exponential l_point_Search_ended_exponential
  try dsimp only
  rw [wr _ (by omega) (by omega)]
  by_cases c : hi = lo + 1
  · rw [br_eq c, if_pos c]
  · rw [br_eq' c, if_neg c, exp_next h (hs c)]
theorem tell3 {R : Type} {v : Bool} {lo hi as st : Int} {no : Bool} (h : 0 ≤ lo ∧ lo < hi ∧ hi ≤ 4096) (hs : hi ≠ lo + 1 → no = false → 1 ≤ st ∧ st ≤ 8192) (c : hi ≠ lo + 1) (K : Int → Int → Int → Int → Int → Bool → Option R) :
    l_point_Search_Tell_exponential v lo hi as st no K = K 0 (if v = true then lo else nextS3 lo hi st no) (if v = true then nextS3 lo hi st no else hi) (IntKind.i64.wrap (as + 1)) (IntKind.i64.wrap (st * 2)) (no || !v) := by
  unfold l_point_Search_Tell_exponential
  rw [ask3 h hs, if_neg c]
  cases v <;> cases no <;> rfl
theorem found3 {R : Type} {lo hi as st : Int} {no : Bool} (h : 0 ≤ lo ∧ lo ≤ 4096) (c : hi = lo + 1) (K : Int → Bool → Int → Int → Int → Int → Bool → Option R) :
    l_point_Search_Found_exponential lo hi as st no K = K lo true lo hi as st no := by
  unfold l_point_Search_Found_exponential l_point_Search_ended_exponential
  rw [wr _ (by omega) (by omega)]
  have e : (hi == lo + 1) = true := by simp [c]
  rw [e]
  rfl
theorem tell1_end {R : Type} {v : Bool} {lo hi as : Int} (h : 0 ≤ lo ∧ lo ≤ 4096) (c : hi = lo + 1) (K : Int → Int → Int → Int → Option R) : l_point_Search_Tell_linear v lo hi as K = K 7 lo hi as := by
  unfold l_point_Search_Tell_linear
  rw [ask1 h, if_pos c]
  rfl
theorem tell2_end {R : Type} {v : Bool} {lo hi as : Int} (h : 0 ≤ lo ∧ lo < hi ∧ hi ≤ 4096) (c : hi = lo + 1) (K : Int → Int → Int → Int → Option R) : l_point_Search_Tell_binary v lo hi as K = K 7 lo hi as := by
  unfold l_point_Search_Tell_binary
  rw [ask2 h, if_pos c]
  rfl
theorem tell3_end {R : Type} {v : Bool} {lo hi as st : Int} {no : Bool} (h : 0 ≤ lo ∧ lo < hi ∧ hi ≤ 4096) (c : hi = lo + 1) (K : Int → Int → Int → Int → Int → Bool → Option R) : l_point_Search_Tell_exponential v lo hi as st no K = K 7 lo hi as st no := by
  unfold l_point_Search_Tell_exponential
  rw [ask3 h (fun e => absurd c e), if_pos c]
  rfl
theorem found1_not {R : Type} {lo hi as : Int} (h : 0 ≤ lo ∧ lo ≤ 4096) (c : hi ≠ lo + 1) (K : Int → Bool → Int → Int → Int → Option R) : l_point_Search_Found_linear lo hi as K = K 0 false lo hi as := by
  unfold l_point_Search_Found_linear l_point_Search_ended_linear
  rw [wr _ (by omega) (by omega)]
  have e : (hi == lo + 1) = false := by simp [c]
  rw [e]
  rfl
theorem found2_not {R : Type} {lo hi as : Int} (h : 0 ≤ lo ∧ lo ≤ 4096) (c : hi ≠ lo + 1) (K : Int → Bool → Int → Int → Int → Option R) : l_point_Search_Found_binary lo hi as K = K 0 false lo hi as := by
  unfold l_point_Search_Found_binary l_point_Search_ended_binary
  rw [wr _ (by omega) (by omega)]
  have e : (hi == lo + 1) = false := by simp [c]
  rw [e]
  rfl
theorem found3_not {R : Type} {lo hi as st : Int} {no : Bool} (h : 0 ≤ lo ∧ lo ≤ 4096) (c : hi ≠ lo + 1) (K : Int → Bool → Int → Int → Int → Int → Bool → Option R) : l_point_Search_Found_exponential lo hi as st no K = K 0 false lo hi as st no := by
  unfold l_point_Search_Found_exponential l_point_Search_ended_exponential
  rw [wr _ (by omega) (by omega)]
  have e : (hi == lo + 1) = false := by simp [c]
  rw [e]
  rfl

/-- tutor/tutorlaw12.live -/
def l_tutorlaw12_live {R : Type}  (K0 : Bool → Option R) : Option R :=
  l_point_New 2 8
   (fun r1 =>
    l_tutorlaw12_num r1
     (fun r2 =>
      bi (r2 != 0)
       (K0 false)
       (K0 false)))
   (fun r3 r4 r5 r6 =>
    l_tutorlaw12_num r3
     (fun r7 =>
      bi (r7 != 0)
       (K0 false)
       (l_point_Search_Ask_linear r4 r5 r6
        (fun r8 r9 r10 r11 r12 =>
         l_point_Search_Tell_linear true r10 r11 r12
          (fun r13 r14 r15 r16 =>
           l_point_Search_Ask_linear r14 r15 r16
            (fun r17 r18 r19 r20 r21 =>
             l_point_Search_Tell_linear false r19 r20 r21
              (fun r22 r23 r24 r25 =>
               l_point_Search_Ask_linear r23 r24 r25
                (fun r26 r27 r28 r29 r30 =>
                 l_point_Search_Tell_linear false r28 r29 r30
                  (fun r31 r32 r33 r34 =>
                   l_point_Search_Found_linear r32 r33 r34
                    (fun r35 r36 r37 r38 r39 =>
                     bi (r8 == 4)
                      (bi (r17 == 2)
                       (bi (r26 == 3)
                        (bi (r35 == 3)
                         (bi r36
                          (l_point_Search_Asked_linear r37 r38 r39
                           (fun r40 r41 r42 r43 =>
                            K0 (r40 == 3)))
                          (K0 false))
                         (K0 false))
                        (K0 false))
                       (K0 false))
                      (K0 false)))))))))))
   (fun r44 r45 r46 r47 =>
    l_tutorlaw12_num r44
     (fun r48 =>
      bi (r48 != 0)
       (K0 false)
       (l_point_Search_Ask_binary r45 r46 r47
        (fun r49 r50 r51 r52 r53 =>
         l_point_Search_Tell_binary true r51 r52 r53
          (fun r54 r55 r56 r57 =>
           l_point_Search_Ask_binary r55 r56 r57
            (fun r58 r59 r60 r61 r62 =>
             l_point_Search_Tell_binary false r60 r61 r62
              (fun r63 r64 r65 r66 =>
               l_point_Search_Ask_binary r64 r65 r66
                (fun r67 r68 r69 r70 r71 =>
                 l_point_Search_Tell_binary false r69 r70 r71
                  (fun r72 r73 r74 r75 =>
                   l_point_Search_Found_binary r73 r74 r75
                    (fun r76 r77 r78 r79 r80 =>
                     bi (r49 == 4)
                      (bi (r58 == 2)
                       (bi (r67 == 3)
                        (bi (r76 == 3)
                         (bi r77
                          (l_point_Search_Asked_binary r78 r79 r80
                           (fun r81 r82 r83 r84 =>
                            K0 (r81 == 3)))
                          (K0 false))
                         (K0 false))
                        (K0 false))
                       (K0 false))
                      (K0 false)))))))))))
   (fun r85 r86 r87 r88 r89 r90 =>
    l_tutorlaw12_num r85
     (fun r91 =>
      bi (r91 != 0)
       (K0 false)
       (l_point_Search_Ask_exponential r86 r87 r88 r89 r90
        (fun r92 r93 r94 r95 r96 r97 r98 =>
         l_point_Search_Tell_exponential true r94 r95 r96 r97 r98
          (fun r99 r100 r101 r102 r103 r104 =>
           l_point_Search_Ask_exponential r100 r101 r102 r103 r104
            (fun r105 r106 r107 r108 r109 r110 r111 =>
             l_point_Search_Tell_exponential false r107 r108 r109 r110 r111
              (fun r112 r113 r114 r115 r116 r117 =>
               l_point_Search_Ask_exponential r113 r114 r115 r116 r117
                (fun r118 r119 r120 r121 r122 r123 r124 =>
                 l_point_Search_Tell_exponential false r120 r121 r122 r123 r124
                  (fun r125 r126 r127 r128 r129 r130 =>
                   l_point_Search_Found_exponential r126 r127 r128 r129 r130
                    (fun r131 r132 r133 r134 r135 r136 r137 =>
                     bi (r92 == 4)
                      (bi (r105 == 2)
                       (bi (r118 == 3)
                        (bi (r131 == 3)
                         (bi r132
                          (l_point_Search_Asked_exponential r133 r134 r135 r136 r137
                           (fun r138 r139 r140 r141 r142 r143 =>
                            K0 (r138 == 3)))
                          (K0 false))
                         (K0 false))
                        (K0 false))
                       (K0 false))
                      (K0 false)))))))))))

theorem live12 {R : Type} (K0 : Bool → Option R) : l_tutorlaw12_live K0 = K0 true := by kernel_rfl

/-- tutor/tutorref01.Lent -/
def l_tutorref01_Lent {R : Type} (a : List Int) (K0 : Nat → (List Int) → Option R) : Option R :=
  bi (decide ((([] : List Int).length + a.length) * 8 ≤ lim))
   (bi (decide (((([] : List Int) ++ a).length + [(-771), (-772)].length) * 8 ≤ lim))
    (bi (decide (0 ≤ (a.length : Int) ∧ (a.length : Int) ≤ ((((([] : List Int) ++ a) ++ [(-771), (-772)]).length : Nat) : Int)))
     (K0 ((a.length : Int).toNat) ((([] : List Int) ++ a) ++ [(-771), (-772)]))
     none)
    none)
   none

/-- A list that is lent: with two marks behind. -/
theorem lent_eq {R : Type} (w : List Int) (K0 : Nat → List Int → Option R) (h : w.length ≤ 17592186043904) : l_tutorref01_Lent w K0 = K0 w.length (w ++ [-771, -772]) := by
  unfold l_tutorref01_Lent
  rw [br_pos (by simp [lim]; omega), br_pos (by simp [lim]; omega), br_pos (by simp; omega), Int.toNat_natCast, List.nil_append]

/-- slices.Clone[[]int,int] -/
def l_slices_Clone_int_int {R : Type} (s : List Int) (K0 : List Int → Option R) : Option R :=
  bi (decide (s.length * 8 ≤ lim)) (K0 s) none

/-- tutor/word.Prefixes -/
def s_word_Prefixes_3 {R : Type} (g63_3 : (List Int) → Int → Int → (List (List Int)) → Option R) (K0 : (List (List Int)) → Option R) (w : List Int) (x7 : Int) (x8 : Int) (o0 : List (List Int)) : Option R :=
  bi (decide (x8 < x7))
   (bi (decide (0 ≤ x8 ∧ x8 ≤ ((w.length : Nat) : Int)))
    (l_slices_Clone_int_int (w.take x8.toNat)
     (fun r1 =>
      bi (decide ((o0.length + [r1].length) * 24 ≤ lim))
       (g63_3 w x7 (IntKind.i64.wrap (x8 + 1)) (o0 ++ [r1]))
       none))
    none)
   (K0 o0)

/-- tutor/word.Prefixes -/
def e_word_Prefixes {R : Type} (g63_3 : (List Int) → Int → Int → (List (List Int)) → Option R) (K0 : (List (List Int)) → Option R) (w : List Int) : Option R :=
  g63_3 w (IntKind.i64.wrap ((w.length : Int) + 1)) 0 ([] : List (List Int))

def run_word_Prefixes {R : Type} (K0 : (List (List Int)) → Option R) : Nat → (List Int) → Int → Int → (List (List Int)) → Option R
  | 0 => fun _ _ _ _ => none
  | n + 1 => s_word_Prefixes_3 (run_word_Prefixes K0 n) K0

def preS (w : List Int) : List (List Int) := (List.range (w.length + 1)).map fun i => w.take i
def sufS (w : List Int) : List (List Int) := (List.range (w.length + 1)).map fun i => w.drop (w.length - i)

def l_word_Prefixes {R : Type} (w : List Int) (K0 : (List (List Int)) → Option R) : Option R := bi (decide (w.length ≤ 1000000)) (K0 (preS w)) none

theorem preLoop {R : Type} {w : List Int} (hw : w.length ≤ 1000000) (K0 : (List (List Int)) → Option R) : ∀ (d i : Nat), i + d = w.length + 1 →
    Reach (fun m => run_word_Prefixes K0 m w ((w.length : Int) + 1) (i : Int) ((List.range i).map fun i => w.take i)) (K0 (preS w)) := by
  intro d
  induction d with
  | zero =>
    intro i hi
    refine .now fun m => ?_
    dsimp only [run_word_Prefixes]
    unfold s_word_Prefixes_3
    rw [br_neg (by omega), show i = w.length + 1 by omega]
    rfl
  | succ d ih =>
    intro i hi
    refine .step (fun m => ?_) (ih (i + 1) (by omega))
    dsimp only [run_word_Prefixes]
    unfold s_word_Prefixes_3 l_slices_Clone_int_int
    rw [br_pos (by omega), br_pos (by omega), Int.toNat_natCast, br_pos (by simp [lim]; omega)]
    dsimp only
    rw [br_pos (by simp [lim]; omega), wr _ (by omega) (by omega), List.range_succ, List.map_append]
    rfl

theorem ok_word_Prefixes {R : Type} (w : List Int) (K0 : (List (List Int)) → Option R) {r : R} (h : l_word_Prefixes w K0 = some r) : ∃ fuel, e_word_Prefixes (run_word_Prefixes K0 fuel) K0 w = some r := by
  unfold l_word_Prefixes at h
  rcases bi_some h with ⟨hs, h⟩ | ⟨_, h⟩
  · have hw : w.length ≤ 1000000 := of_decide_eq_true hs
    rw [← h]
    unfold e_word_Prefixes
    rw [wr _ (by omega) (by omega)]
    exact (preLoop hw K0 (w.length + 1) 0 (by omega)).get
  · cases h

theorem wpre_eq {R : Type} {w : List Int} (hw : w.length ≤ 1000000) (K0 : (List (List Int)) → Option R) : l_word_Prefixes w K0 = K0 (preS w) := by
  unfold l_word_Prefixes
  rw [br_pos hw]
theorem preS_len (w : List Int) : (preS w).length = w.length + 1 := by simp [preS]
theorem sufS_len (w : List Int) : (sufS w).length = w.length + 1 := by simp [sufS]
theorem preS_row {w x : List Int} (h : x ∈ preS w) : x.length ≤ w.length := by
  obtain ⟨i, _, rfl⟩ := List.mem_map.1 h
  simp
  omega
theorem sufS_row {w x : List Int} (h : x ∈ sufS w) : x.length ≤ w.length := by
  obtain ⟨i, _, rfl⟩ := List.mem_map.1 h
  simp

/-- tutor/point.Beginnings -/
def l_point_Beginnings {R : Type} (w : List Int) (K0 : (List (List Int)) → Option R) : Option R :=
  l_word_Prefixes w
   (fun r1 =>
    bi (decide (0 ≤ (1 : Int) ∧ (1 : Int) ≤ ((r1.length : Nat) : Int)))
     (K0 (r1.drop 1))
     none)

/-- tutor/word.Suffixes -/
def s_word_Suffixes_3 {R : Type} (g64_3 : (List Int) → Int → Int → (List (List Int)) → Option R) (K0 : (List (List Int)) → Option R) (w : List Int) (x7 : Int) (x8 : Int) (o0 : List (List Int)) : Option R :=
  bi (decide (x8 < x7))
   (bi (decide (0 ≤ (IntKind.i64.wrap ((w.length : Int) - x8)) ∧ (IntKind.i64.wrap ((w.length : Int) - x8)) ≤ ((w.length : Nat) : Int)))
    (l_slices_Clone_int_int ((w.drop ((IntKind.i64.wrap ((w.length : Int) - x8)).toNat)).take (w.length - ((IntKind.i64.wrap ((w.length : Int) - x8)).toNat)))
     (fun r1 =>
      bi (decide ((o0.length + [r1].length) * 24 ≤ lim))
       (g64_3 w x7 (IntKind.i64.wrap (x8 + 1)) (o0 ++ [r1]))
       none))
    none)
   (K0 o0)

/-- tutor/word.Suffixes -/
def e_word_Suffixes {R : Type} (g64_3 : (List Int) → Int → Int → (List (List Int)) → Option R) (K0 : (List (List Int)) → Option R) (w : List Int) : Option R :=
  g64_3 w (IntKind.i64.wrap ((w.length : Int) + 1)) 0 ([] : List (List Int))

def run_word_Suffixes {R : Type} (K0 : (List (List Int)) → Option R) : Nat → (List Int) → Int → Int → (List (List Int)) → Option R
  | 0 => fun _ _ _ _ => none
  | n + 1 => s_word_Suffixes_3 (run_word_Suffixes K0 n) K0

def l_word_Suffixes {R : Type} (w : List Int) (K0 : (List (List Int)) → Option R) : Option R := bi (decide (w.length ≤ 1000000)) (K0 (sufS w)) none

theorem sufLoop {R : Type} {w : List Int} (hw : w.length ≤ 1000000) (K0 : (List (List Int)) → Option R) : ∀ (d i : Nat), i + d = w.length + 1 →
    Reach (fun m => run_word_Suffixes K0 m w ((w.length : Int) + 1) (i : Int) ((List.range i).map fun i => w.drop (w.length - i))) (K0 (sufS w)) := by
  intro d
  induction d with
  | zero =>
    intro i hi
    refine .now fun m => ?_
    dsimp only [run_word_Suffixes]
    unfold s_word_Suffixes_3
    rw [br_neg (by omega), show i = w.length + 1 by omega]
    rfl
  | succ d ih =>
    intro i hi
    refine .step (fun m => ?_) (ih (i + 1) (by omega))
    dsimp only [run_word_Suffixes]
    unfold s_word_Suffixes_3 l_slices_Clone_int_int
    have e1 : ((w.length : Int) - (i : Int)).toNat = w.length - i := by omega
    have e2 : (w.drop (w.length - i)).take (w.length - (w.length - i)) = w.drop (w.length - i) := List.take_of_length_le (by simp)
    rw [br_pos (by omega), wr ((w.length : Int) - (i : Int)) (by omega) (by omega), br_pos (by omega), e1, e2, br_pos (by simp [lim]; omega)]
    dsimp only
    rw [br_pos (by simp [lim]; omega), wr _ (by omega) (by omega), List.range_succ, List.map_append]
    rfl

theorem ok_word_Suffixes {R : Type} (w : List Int) (K0 : (List (List Int)) → Option R) {r : R} (h : l_word_Suffixes w K0 = some r) : ∃ fuel, e_word_Suffixes (run_word_Suffixes K0 fuel) K0 w = some r := by
  unfold l_word_Suffixes at h
  rcases bi_some h with ⟨hs, h⟩ | ⟨_, h⟩
  · have hw : w.length ≤ 1000000 := of_decide_eq_true hs
    rw [← h]
    unfold e_word_Suffixes
    rw [wr _ (by omega) (by omega)]
    exact (sufLoop hw K0 (w.length + 1) 0 (by omega)).get
  · cases h

theorem wsuf_eq {R : Type} {w : List Int} (hw : w.length ≤ 1000000) (K0 : (List (List Int)) → Option R) : l_word_Suffixes w K0 = K0 (sufS w) := by
  unfold l_word_Suffixes
  rw [br_pos hw]

/-- tutor/point.Ends -/
def l_point_Ends {R : Type} (w : List Int) (K0 : (List (List Int)) → Option R) : Option R :=
  l_word_Suffixes w
   (fun r1 =>
    bi (decide (0 ≤ (1 : Int) ∧ (1 : Int) ≤ ((r1.length : Nat) : Int)))
     (K0 (r1.drop 1))
     none)

/-- tutor/tutorref01.Prefixes -/
def s_tutorref01_Prefixes_3 {R : Type} (g47_3 : (List Int) → Int → (List (List Int)) → Option R) (K0 : (List (List Int)) → Option R) (w : List Int) (i : Int) (o0 : List (List Int)) : Option R :=
  bi (decide (i ≤ (w.length : Int)))
   (bi (decide (0 ≤ i ∧ i ≤ ((w.length : Nat) : Int)))
    (bi (decide ((([] : List Int).length + (w.take i.toNat).length) * 8 ≤ lim))
     (bi (decide ((o0.length + [([] : List Int) ++ (w.take i.toNat)].length) * 24 ≤ lim))
      (g47_3 w (IntKind.i64.wrap (i + 1)) (o0 ++ [([] : List Int) ++ (w.take i.toNat)]))
      none)
     none)
    none)
   (K0 o0)

/-- tutor/tutorref01.Prefixes -/
def e_tutorref01_Prefixes {R : Type} (g47_3 : (List Int) → Int → (List (List Int)) → Option R) (K0 : (List (List Int)) → Option R) (w : List Int) : Option R :=
  g47_3 w 0 ([] : List (List Int))

def run_tutorref01_Prefixes {R : Type} (K0 : (List (List Int)) → Option R) : Nat → (List Int) → Int → (List (List Int)) → Option R
  | 0 => fun _ _ _ => none
  | n + 1 => s_tutorref01_Prefixes_3 (run_tutorref01_Prefixes K0 n) K0

def l_tutorref01_Prefixes {R : Type} (w : List Int) (K0 : (List (List Int)) → Option R) : Option R := bi (decide (w.length ≤ 1000000)) (K0 (preS w)) none

theorem rpreLoop {R : Type} {w : List Int} (hw : w.length ≤ 1000000) (K0 : (List (List Int)) → Option R) : ∀ (d i : Nat), i + d = w.length + 1 →
    Reach (fun m => run_tutorref01_Prefixes K0 m w (i : Int) ((List.range i).map fun i => w.take i)) (K0 (preS w)) := by
  intro d
  induction d with
  | zero =>
    intro i hi
    refine .now fun m => ?_
    dsimp only [run_tutorref01_Prefixes]
    unfold s_tutorref01_Prefixes_3
    rw [br_neg (by omega), show i = w.length + 1 by omega]
    rfl
  | succ d ih =>
    intro i hi
    refine .step (fun m => ?_) (ih (i + 1) (by omega))
    dsimp only [run_tutorref01_Prefixes]
    unfold s_tutorref01_Prefixes_3
    rw [br_pos (by omega), br_pos (by omega), Int.toNat_natCast, br_pos (by simp [lim]; omega), br_pos (by simp [lim]; omega), wr _ (by omega) (by omega), List.range_succ, List.map_append]
    rfl

theorem ok_tutorref01_Prefixes {R : Type} (w : List Int) (K0 : (List (List Int)) → Option R) {r : R} (h : l_tutorref01_Prefixes w K0 = some r) : ∃ fuel, e_tutorref01_Prefixes (run_tutorref01_Prefixes K0 fuel) K0 w = some r := by
  unfold l_tutorref01_Prefixes at h
  rcases bi_some h with ⟨hs, h⟩ | ⟨_, h⟩
  · have hw : w.length ≤ 1000000 := of_decide_eq_true hs
    rw [← h]
    unfold e_tutorref01_Prefixes
    exact (rpreLoop hw K0 (w.length + 1) 0 (by omega)).get
  · cases h

theorem rpre_eq {R : Type} {w : List Int} (hw : w.length ≤ 1000000) (K0 : (List (List Int)) → Option R) : l_tutorref01_Prefixes w K0 = K0 (preS w) := by
  unfold l_tutorref01_Prefixes
  rw [br_pos hw]

/-- tutor/tutorref01.Same -/
def s_tutorref01_Same_4 {R : Type} (g24_4 : (List Int) → (List Int) → Int → Option R) (K0 : Bool → Option R) (a : List Int) (b : List Int) (i : Int) : Option R :=
  bi (decide (i < (a.length : Int)))
   (bi (decide (0 ≤ i ∧ i < ((a.length : Nat) : Int)))
    (bi (decide (0 ≤ i ∧ i < ((b.length : Nat) : Int)))
     (bi ((a.getD i.toNat 0) != (b.getD i.toNat 0))
      (K0 false)
      (g24_4 a b (IntKind.i64.wrap (i + 1))))
     none)
    none)
   (K0 true)

/-- tutor/tutorref01.Same -/
def e_tutorref01_Same {R : Type} (g24_4 : (List Int) → (List Int) → Int → Option R) (K0 : Bool → Option R) (a : List Int) (b : List Int) : Option R :=
  bi ((a.length : Int) != (b.length : Int))
   (K0 false)
   (g24_4 a b 0)

def run_tutorref01_Same {R : Type} (K0 : Bool → Option R) : Nat → (List Int) → (List Int) → Int → Option R
  | 0 => fun _ _ _ => none
  | n + 1 => s_tutorref01_Same_4 (run_tutorref01_Same K0 n) K0

def l_tutorref01_Same {R : Type} (a : List Int) (b : List Int) (K0 : Bool → Option R) : Option R := bi (decide (short a)) (K0 (decide (a = b))) none

theorem findP_zip {a b : List Int} (hl : a.length = b.length) : findP (fun i => a.getD i 0 != b.getD i 0) (List.range a.length) = none ↔ a = b := by
  rw [findP_none]
  constructor
  · intro h
    refine List.ext_getElem hl fun i h1 h2 => ?_
    have := h i (by simpa using h1)
    rw [getD_of 0 h1, getD_of 0 h2] at this
    simpa using this
  · rintro rfl i _
    simp

theorem ok_tutorref01_Same {R : Type} (a : List Int) (b : List Int) (K0 : Bool → Option R) {r : R} (h : l_tutorref01_Same a b K0 = some r) : ∃ fuel, e_tutorref01_Same (run_tutorref01_Same K0 fuel) K0 a b = some r := by
  unfold l_tutorref01_Same at h
  rcases bi_some h with ⟨hs, h⟩ | ⟨_, h⟩
  · have hs : a.length < 4611686018427387904 := of_decide_eq_true hs
    refine ⟨a.length + 1, ?_⟩
    rw [← h]
    unfold e_tutorref01_Same
    by_cases hl : a.length = b.length
    · rw [br_ne' (by omega)]
      have key := scan_all (F := fun m i => run_tutorref01_Same K0 m a b (i : Int)) (fun i => a.getD i 0 != b.getD i 0) (l := List.range a.length) (A := fun i => K0 false) (B := K0 true)
        (fun m => by
          show s_tutorref01_Same_4 _ _ _ _ _ = _
          unfold s_tutorref01_Same_4
          rw [List.length_range, br_neg (by omega)])
        (fun m i hi => by
          rw [List.length_range] at hi
          show s_tutorref01_Same_4 _ _ _ _ _ = _
          unfold s_tutorref01_Same_4
          rw [br_pos (by omega), br_pos (by omega), br_pos (by omega), br_if, Int.toNat_natCast, wr _ (by omega) (by omega), List.getElem_range]
          rfl)
      rw [List.length_range] at key
      refine key.trans ?_
      by_cases e : a = b
      · rw [(findP_zip hl).2 e]
        simp [e]
      · have : findP (fun i => a.getD i 0 != b.getD i 0) (List.range a.length) ≠ none := fun h => e ((findP_zip hl).1 h)
        cases hf : findP (fun i => a.getD i 0 != b.getD i 0) (List.range a.length) with
        | none => exact absurd hf this
        | some j => simp [e]
    · rw [br_ne (by omega)]
      have e : a ≠ b := fun e => hl (by rw [e])
      simp [e]
  · cases h

theorem same_eq {R : Type} {a b : List Int} (h : short a) (K0 : Bool → Option R) : l_tutorref01_Same a b K0 = K0 (decide (a = b)) := by
  unfold l_tutorref01_Same
  rw [br_pos h]

/-- tutor/tutorref01.Lists -/
def s_tutorref01_Lists_4 {R : Type} (g46_4 : (List (List Int)) → (List (List Int)) → Int → Option R) (K0 : Bool → Option R) (a : List (List Int)) (b : List (List Int)) (i : Int) : Option R :=
  bi (decide (i < (a.length : Int)))
   (bi (decide (0 ≤ i ∧ i < ((a.length : Nat) : Int)))
    (bi (decide (0 ≤ i ∧ i < ((b.length : Nat) : Int)))
     (l_tutorref01_Same (a.getD i.toNat []) (b.getD i.toNat [])
      (fun r1 =>
       bi (!r1)
        (K0 false)
        (g46_4 a b (IntKind.i64.wrap (i + 1)))))
     none)
    none)
   (K0 true)

/-- tutor/tutorref01.Lists -/
def e_tutorref01_Lists {R : Type} (g46_4 : (List (List Int)) → (List (List Int)) → Int → Option R) (K0 : Bool → Option R) (a : List (List Int)) (b : List (List Int)) : Option R :=
  bi ((a.length : Int) != (b.length : Int))
   (K0 false)
   (g46_4 a b 0)

def run_tutorref01_Lists {R : Type} (K0 : Bool → Option R) : Nat → (List (List Int)) → (List (List Int)) → Int → Option R
  | 0 => fun _ _ _ => none
  | n + 1 => s_tutorref01_Lists_4 (run_tutorref01_Lists K0 n) K0

def shortR (a : List (List Int)) : Prop := short a ∧ ∀ x ∈ a, short x
instance (a : List (List Int)) : Decidable (shortR a) := by unfold shortR; infer_instance

def l_tutorref01_Lists {R : Type} (a : List (List Int)) (b : List (List Int)) (K0 : Bool → Option R) : Option R := bi (decide (shortR a)) (K0 (decide (a = b))) none

theorem listsLoop {R : Type} {a b : List (List Int)} (ha : shortR a) (hl : a.length = b.length) (K0 : Bool → Option R) : ∀ (d i : Nat), i + d = a.length → a.take i = b.take i → Reach (fun m => run_tutorref01_Lists K0 m a b (i : Int)) (K0 (decide (a = b))) := by
  have hs : a.length < 4611686018427387904 := ha.1
  intro d
  induction d with
  | zero =>
    intro i hi ht
    refine .now fun m => ?_
    dsimp only [run_tutorref01_Lists]
    unfold s_tutorref01_Lists_4
    rw [List.take_of_length_le (by omega), List.take_of_length_le (by omega)] at ht
    rw [br_neg (by omega), ht]
    simp
  | succ d ih =>
    intro i hi ht
    have h1 : i < a.length := by omega
    have h2 : i < b.length := by omega
    by_cases he : a[i] = b[i]
    · refine .step (fun m => ?_) (ih (i + 1) (by omega) ?_)
      · dsimp only [run_tutorref01_Lists]
        unfold s_tutorref01_Lists_4
        rw [br_pos (by omega), br_pos (by omega), br_pos (by omega), Int.toNat_natCast, getD_of [] h1, getD_of [] h2, same_eq (ha.2 _ (List.getElem_mem h1)), decide_eq_true he, Bool.not_true, br_ff, wr _ (by omega) (by omega)]
        rfl
      · rw [List.take_add_one, List.take_add_one, ht, List.getElem?_eq_getElem h1, List.getElem?_eq_getElem h2, he]
    · refine .now fun m => ?_
      dsimp only [run_tutorref01_Lists]
      unfold s_tutorref01_Lists_4
      have hne : ¬ a = b := fun e => he (by subst e; rfl)
      rw [br_pos (by omega), br_pos (by omega), br_pos (by omega), Int.toNat_natCast, getD_of [] h1, getD_of [] h2, same_eq (ha.2 _ (List.getElem_mem h1)), decide_eq_false he, Bool.not_false, br_tt, decide_eq_false hne]

theorem ok_tutorref01_Lists {R : Type} (a : List (List Int)) (b : List (List Int)) (K0 : Bool → Option R) {r : R} (h : l_tutorref01_Lists a b K0 = some r) : ∃ fuel, e_tutorref01_Lists (run_tutorref01_Lists K0 fuel) K0 a b = some r := by
  unfold l_tutorref01_Lists at h
  rcases bi_some h with ⟨hs, h⟩ | ⟨_, h⟩
  · have ha : shortR a := of_decide_eq_true hs
    rw [← h]
    unfold e_tutorref01_Lists
    by_cases hl : a.length = b.length
    · obtain ⟨n, hn⟩ := (listsLoop ha hl K0 a.length 0 (by omega) (by simp)).get
      exact ⟨n, by rw [br_ne' (by omega)]; exact hn⟩
    · have hne : ¬ a = b := fun e => hl (by rw [e])
      exact ⟨0, by rw [br_ne (by omega), decide_eq_false hne]⟩
  · cases h

theorem lists_eq {R : Type} {a b : List (List Int)} (h : shortR a) (K0 : Bool → Option R) : l_tutorref01_Lists a b K0 = K0 (decide (a = b)) := by
  unfold l_tutorref01_Lists
  rw [br_pos h]

/-- tutor/tutorref01.Suffixes -/
def s_tutorref01_Suffixes_3 {R : Type} (g48_3 : (List Int) → Int → (List (List Int)) → Option R) (K0 : (List (List Int)) → Option R) (w : List Int) (i : Int) (o0 : List (List Int)) : Option R :=
  bi (decide (i ≥ 0))
   (bi (decide (0 ≤ i ∧ i ≤ ((w.length : Nat) : Int)))
    (bi (decide ((([] : List Int).length + ((w.drop i.toNat).take (w.length - i.toNat)).length) * 8 ≤ lim))
     (bi (decide ((o0.length + [([] : List Int) ++ ((w.drop i.toNat).take (w.length - i.toNat))].length) * 24 ≤ lim))
      (g48_3 w (IntKind.i64.wrap (i - 1)) (o0 ++ [([] : List Int) ++ ((w.drop i.toNat).take (w.length - i.toNat))]))
      none)
     none)
    none)
   (K0 o0)

/-- tutor/tutorref01.Suffixes -/
def e_tutorref01_Suffixes {R : Type} (g48_3 : (List Int) → Int → (List (List Int)) → Option R) (K0 : (List (List Int)) → Option R) (w : List Int) : Option R :=
  g48_3 w (w.length : Int) ([] : List (List Int))

def run_tutorref01_Suffixes {R : Type} (K0 : (List (List Int)) → Option R) : Nat → (List Int) → Int → (List (List Int)) → Option R
  | 0 => fun _ _ _ => none
  | n + 1 => s_tutorref01_Suffixes_3 (run_tutorref01_Suffixes K0 n) K0

def l_tutorref01_Suffixes {R : Type} (w : List Int) (K0 : (List (List Int)) → Option R) : Option R := bi (decide (w.length ≤ 1000000)) (K0 (sufS w)) none

theorem rsufLoop {R : Type} {w : List Int} (hw : w.length ≤ 1000000) (K0 : (List (List Int)) → Option R) : ∀ (d i : Nat), i + d = w.length + 1 →
    Reach (fun m => run_tutorref01_Suffixes K0 m w ((w.length : Int) - (i : Int)) ((List.range i).map fun i => w.drop (w.length - i))) (K0 (sufS w)) := by
  intro d
  induction d with
  | zero =>
    intro i hi
    refine .now fun m => ?_
    dsimp only [run_tutorref01_Suffixes]
    unfold s_tutorref01_Suffixes_3
    rw [br_neg (by omega), show i = w.length + 1 by omega]
    rfl
  | succ d ih =>
    intro i hi
    refine .step (fun m => ?_) (ih (i + 1) (by omega))
    dsimp only [run_tutorref01_Suffixes]
    unfold s_tutorref01_Suffixes_3
    have e1 : ((w.length : Int) - (i : Int)).toNat = w.length - i := by omega
    have e2 : (w.drop (w.length - i)).take (w.length - (w.length - i)) = w.drop (w.length - i) := List.take_of_length_le (by simp)
    have e3 : (w.length : Int) - (i : Int) - 1 = (w.length : Int) - ((i + 1 : Nat) : Int) := by omega
    rw [br_pos (by omega), br_pos (by omega), e1, e2, br_pos (by simp [lim]; omega), br_pos (by simp [lim]; omega), wr _ (by omega) (by omega), List.range_succ, List.map_append, e3]
    rfl

theorem ok_tutorref01_Suffixes {R : Type} (w : List Int) (K0 : (List (List Int)) → Option R) {r : R} (h : l_tutorref01_Suffixes w K0 = some r) : ∃ fuel, e_tutorref01_Suffixes (run_tutorref01_Suffixes K0 fuel) K0 w = some r := by
  unfold l_tutorref01_Suffixes at h
  rcases bi_some h with ⟨hs, h⟩ | ⟨_, h⟩
  · have hw : w.length ≤ 1000000 := of_decide_eq_true hs
    rw [← h]
    unfold e_tutorref01_Suffixes
    have := (rsufLoop hw K0 (w.length + 1) 0 (by omega)).get
    simpa using this
  · cases h

theorem rsuf_eq {R : Type} {w : List Int} (hw : w.length ≤ 1000000) (K0 : (List (List Int)) → Option R) : l_tutorref01_Suffixes w K0 = K0 (sufS w) := by
  unfold l_tutorref01_Suffixes
  rw [br_pos hw]

/-- tutor/tutorref01.Apart -/
def s_tutorref01_Apart_2 {R : Type} (g27_2 : Int → (List (List Int)) → Option R) (g27_5 : Int → Int → (List (List Int)) → Option R) (g27_9 : Int → (List (List Int)) → Option R) (g27_13 : Int → Nat → Int → (List (List Int)) → Option R) (g27_17 : Int → (List (List Int)) → Option R) (g27_13b : Int → Int → (List (List Int)) → Nat → Nat → Option R) (g27_20 : Int → Int → (List (List Int)) → Option R) (K0 : Bool → (List (List Int)) → Option R) (i : Int) (o0 : List (List Int)) : Option R :=
  bi (decide (i < (o0.length : Int)))
   (g27_5 i 0 o0)
   (g27_9 0 o0)

/-- tutor/tutorref01.Apart -/
def s_tutorref01_Apart_5 {R : Type} (g27_2 : Int → (List (List Int)) → Option R) (g27_5 : Int → Int → (List (List Int)) → Option R) (g27_9 : Int → (List (List Int)) → Option R) (g27_13 : Int → Nat → Int → (List (List Int)) → Option R) (g27_17 : Int → (List (List Int)) → Option R) (g27_13b : Int → Int → (List (List Int)) → Nat → Nat → Option R) (g27_20 : Int → Int → (List (List Int)) → Option R) (K0 : Bool → (List (List Int)) → Option R) (i : Int) (k : Int) (o0 : List (List Int)) : Option R :=
  bi (decide (0 ≤ i ∧ i < ((o0.length : Nat) : Int)))
   (bi (decide (k < ((o0.getD i.toNat []).length : Int)))
    (bi (decide (0 ≤ i ∧ i < ((o0.length : Nat) : Int)))
     (bi (decide (0 ≤ k ∧ k < (((o0.getD i.toNat []).length : Nat) : Int)))
      (g27_5 i (IntKind.i64.wrap (k + 1)) (o0.set i.toNat ((o0.getD i.toNat []).set k.toNat (IntKind.i64.wrap ((-1000) - i)))))
      none)
     none)
    (g27_2 (IntKind.i64.wrap (i + 1)) o0))
   none

/-- tutor/tutorref01.Apart -/
def s_tutorref01_Apart_9 {R : Type} (g27_2 : Int → (List (List Int)) → Option R) (g27_5 : Int → Int → (List (List Int)) → Option R) (g27_9 : Int → (List (List Int)) → Option R) (g27_13 : Int → Nat → Int → (List (List Int)) → Option R) (g27_17 : Int → (List (List Int)) → Option R) (g27_13b : Int → Int → (List (List Int)) → Nat → Nat → Option R) (g27_20 : Int → Int → (List (List Int)) → Option R) (K0 : Bool → (List (List Int)) → Option R) (i : Int) (o0 : List (List Int)) : Option R :=
  bi (decide (i < (o0.length : Int)))
   (bi (decide (0 ≤ i ∧ i < ((o0.length : Nat) : Int)))
    (g27_13 i i.toNat 0 o0)
    none)
   (g27_17 0 o0)

/-- tutor/tutorref01.Apart -/
def s_tutorref01_Apart_13a {R : Type} (g27_2 : Int → (List (List Int)) → Option R) (g27_5 : Int → Int → (List (List Int)) → Option R) (g27_9 : Int → (List (List Int)) → Option R) (g27_13 : Int → Nat → Int → (List (List Int)) → Option R) (g27_17 : Int → (List (List Int)) → Option R) (g27_13b : Int → Int → (List (List Int)) → Nat → Nat → Option R) (g27_20 : Int → Int → (List (List Int)) → Option R) (K0 : Bool → (List (List Int)) → Option R) (i : Int) (x : Nat) (k : Int) (o0 : List (List Int)) : Option R :=
  bi (decide (k < 6))
   (bi (decide (((o0.getD x []).length + [IntKind.i64.wrap ((-5000) - i)].length) * 8 ≤ lim))
    (g27_13b i (IntKind.i64.wrap (k + 1)) o0 x ((o0.getD x []).length + [IntKind.i64.wrap ((-5000) - i)].length))
    none)
   (g27_9 (IntKind.i64.wrap (i + 1)) o0)

/-- tutor/tutorref01.Apart -/
def s_tutorref01_Apart_17 {R : Type} (g27_2 : Int → (List (List Int)) → Option R) (g27_5 : Int → Int → (List (List Int)) → Option R) (g27_9 : Int → (List (List Int)) → Option R) (g27_13 : Int → Nat → Int → (List (List Int)) → Option R) (g27_17 : Int → (List (List Int)) → Option R) (g27_13b : Int → Int → (List (List Int)) → Nat → Nat → Option R) (g27_20 : Int → Int → (List (List Int)) → Option R) (K0 : Bool → (List (List Int)) → Option R) (i : Int) (o0 : List (List Int)) : Option R :=
  bi (decide (i < (o0.length : Int)))
   (g27_20 i 0 o0)
   (K0 true o0)

/-- tutor/tutorref01.Apart -/
def s_tutorref01_Apart_13b {R : Type} (g27_2 : Int → (List (List Int)) → Option R) (g27_5 : Int → Int → (List (List Int)) → Option R) (g27_9 : Int → (List (List Int)) → Option R) (g27_13 : Int → Nat → Int → (List (List Int)) → Option R) (g27_17 : Int → (List (List Int)) → Option R) (g27_13b : Int → Int → (List (List Int)) → Nat → Nat → Option R) (g27_20 : Int → Int → (List (List Int)) → Option R) (K0 : Bool → (List (List Int)) → Option R) (i : Int) (k : Int) (o0 : List (List Int)) (o1 : Nat) (o1_1 : Nat) : Option R :=
  bi (decide (k < 6))
   (bi (decide ((o1_1 + [IntKind.i64.wrap ((-5000) - i)].length) * 8 ≤ lim))
    (g27_13b i (IntKind.i64.wrap (k + 1)) o0 o1 (o1_1 + [IntKind.i64.wrap ((-5000) - i)].length))
    none)
   (g27_9 (IntKind.i64.wrap (i + 1)) o0)

/-- tutor/tutorref01.Apart -/
def s_tutorref01_Apart_20 {R : Type} (g27_2 : Int → (List (List Int)) → Option R) (g27_5 : Int → Int → (List (List Int)) → Option R) (g27_9 : Int → (List (List Int)) → Option R) (g27_13 : Int → Nat → Int → (List (List Int)) → Option R) (g27_17 : Int → (List (List Int)) → Option R) (g27_13b : Int → Int → (List (List Int)) → Nat → Nat → Option R) (g27_20 : Int → Int → (List (List Int)) → Option R) (K0 : Bool → (List (List Int)) → Option R) (i : Int) (k : Int) (o0 : List (List Int)) : Option R :=
  bi (decide (0 ≤ i ∧ i < ((o0.length : Nat) : Int)))
   (bi (decide (k < ((o0.getD i.toNat []).length : Int)))
    (bi (decide (0 ≤ i ∧ i < ((o0.length : Nat) : Int)))
     (bi (decide (0 ≤ k ∧ k < (((o0.getD i.toNat []).length : Nat) : Int)))
      (bi (((o0.getD i.toNat []).getD k.toNat 0) != (IntKind.i64.wrap ((-1000) - i)))
       (K0 false o0)
       (g27_20 i (IntKind.i64.wrap (k + 1)) o0))
      none)
     none)
    (g27_17 (IntKind.i64.wrap (i + 1)) o0))
   none

/-- tutor/tutorref01.Apart -/
def e_tutorref01_Apart {R : Type} (g27_2 : Int → (List (List Int)) → Option R) (g27_5 : Int → Int → (List (List Int)) → Option R) (g27_9 : Int → (List (List Int)) → Option R) (g27_13 : Int → Nat → Int → (List (List Int)) → Option R) (g27_17 : Int → (List (List Int)) → Option R) (g27_13b : Int → Int → (List (List Int)) → Nat → Nat → Option R) (g27_20 : Int → Int → (List (List Int)) → Option R) (K0 : Bool → (List (List Int)) → Option R) (o0 : List (List Int)) : Option R :=
  g27_2 0 o0

def run_tutorref01_Apart {R : Type} (K0 : Bool → (List (List Int)) → Option R) : Nat → (Int → (List (List Int)) → Option R) × (Int → Int → (List (List Int)) → Option R) × (Int → (List (List Int)) → Option R) × (Int → Nat → Int → (List (List Int)) → Option R) × (Int → (List (List Int)) → Option R) × (Int → Int → (List (List Int)) → Nat → Nat → Option R) × (Int → Int → (List (List Int)) → Option R)
  | 0 => (fun _ _ => none, fun _ _ _ => none, fun _ _ => none, fun _ _ _ _ => none, fun _ _ => none, fun _ _ _ _ _ => none, fun _ _ _ => none)
  | n + 1 => (s_tutorref01_Apart_2 (run_tutorref01_Apart K0 n).1 (run_tutorref01_Apart K0 n).2.1 (run_tutorref01_Apart K0 n).2.2.1 (run_tutorref01_Apart K0 n).2.2.2.1 (run_tutorref01_Apart K0 n).2.2.2.2.1 (run_tutorref01_Apart K0 n).2.2.2.2.2.1 (run_tutorref01_Apart K0 n).2.2.2.2.2.2 K0, s_tutorref01_Apart_5 (run_tutorref01_Apart K0 n).1 (run_tutorref01_Apart K0 n).2.1 (run_tutorref01_Apart K0 n).2.2.1 (run_tutorref01_Apart K0 n).2.2.2.1 (run_tutorref01_Apart K0 n).2.2.2.2.1 (run_tutorref01_Apart K0 n).2.2.2.2.2.1 (run_tutorref01_Apart K0 n).2.2.2.2.2.2 K0, s_tutorref01_Apart_9 (run_tutorref01_Apart K0 n).1 (run_tutorref01_Apart K0 n).2.1 (run_tutorref01_Apart K0 n).2.2.1 (run_tutorref01_Apart K0 n).2.2.2.1 (run_tutorref01_Apart K0 n).2.2.2.2.1 (run_tutorref01_Apart K0 n).2.2.2.2.2.1 (run_tutorref01_Apart K0 n).2.2.2.2.2.2 K0, s_tutorref01_Apart_13a (run_tutorref01_Apart K0 n).1 (run_tutorref01_Apart K0 n).2.1 (run_tutorref01_Apart K0 n).2.2.1 (run_tutorref01_Apart K0 n).2.2.2.1 (run_tutorref01_Apart K0 n).2.2.2.2.1 (run_tutorref01_Apart K0 n).2.2.2.2.2.1 (run_tutorref01_Apart K0 n).2.2.2.2.2.2 K0, s_tutorref01_Apart_17 (run_tutorref01_Apart K0 n).1 (run_tutorref01_Apart K0 n).2.1 (run_tutorref01_Apart K0 n).2.2.1 (run_tutorref01_Apart K0 n).2.2.2.1 (run_tutorref01_Apart K0 n).2.2.2.2.1 (run_tutorref01_Apart K0 n).2.2.2.2.2.1 (run_tutorref01_Apart K0 n).2.2.2.2.2.2 K0, s_tutorref01_Apart_13b (run_tutorref01_Apart K0 n).1 (run_tutorref01_Apart K0 n).2.1 (run_tutorref01_Apart K0 n).2.2.1 (run_tutorref01_Apart K0 n).2.2.2.1 (run_tutorref01_Apart K0 n).2.2.2.2.1 (run_tutorref01_Apart K0 n).2.2.2.2.2.1 (run_tutorref01_Apart K0 n).2.2.2.2.2.2 K0, s_tutorref01_Apart_20 (run_tutorref01_Apart K0 n).1 (run_tutorref01_Apart K0 n).2.1 (run_tutorref01_Apart K0 n).2.2.1 (run_tutorref01_Apart K0 n).2.2.2.1 (run_tutorref01_Apart K0 n).2.2.2.2.1 (run_tutorref01_Apart K0 n).2.2.2.2.2.1 (run_tutorref01_Apart K0 n).2.2.2.2.2.2 K0)

/-- Each row written full with a mark of its own, from a row on. -/
def markF (i : Nat) (o : List (List Int)) : List (List Int) := o.mapIdx fun j x => if i ≤ j then List.replicate x.length (-1000 - (j : Int)) else x

theorem markF_len (i : Nat) (o : List (List Int)) : (markF i o).length = o.length := by simp [markF]
theorem markF_get {i j : Nat} {o : List (List Int)} (h : j < o.length) : (markF i o).getD j [] = if i ≤ j then List.replicate (o.getD j []).length (-1000 - (j : Int)) else o.getD j [] := by
  unfold markF
  rw [getD_of [] (by simpa using h), List.getElem_mapIdx, getD_of [] h]

theorem rows_ext {o p : List (List Int)} (hl : o.length = p.length) (h : ∀ j, j < o.length → o.getD j [] = p.getD j []) : o = p := by
  refine List.ext_getElem hl fun j h1 h2 => ?_
  have := h j h1
  rwa [getD_of [] h1, getD_of [] h2] at this

theorem getD_setL (l : List (List Int)) (i t : Nat) (x : List Int) : (l.set i x).getD t [] = if i = t ∧ i < l.length then x else l.getD t [] := by
  rw [List.getD_eq_getElem?_getD, List.getElem?_set, List.getD_eq_getElem?_getD]
  by_cases h : i = t
  · subst h
    by_cases h2 : i < l.length
    · simp [h2]
    · simp [h2]
  · simp [h]

def apOk (o : List (List Int)) : Prop := short o ∧ ∀ x ∈ o, x.length ≤ 17592186044400
instance (o : List (List Int)) : Decidable (apOk o) := by unfold apOk; infer_instance

theorem apOk_set {o : List (List Int)} {i : Nat} {x : List Int} (h : apOk o) (hx : x.length ≤ 17592186044400) : apOk (o.set i x) := by
  refine ⟨by have := h.1; unfold short at *; simpa using this, fun y hy => ?_⟩
  rcases List.mem_or_eq_of_mem_set hy with h1 | rfl
  · exact h.2 y h1
  · exact hx

theorem apOk_row {o : List (List Int)} (h : apOk o) {j : Nat} (hj : j < o.length) : (o.getD j []).length ≤ 17592186044400 := by
  rw [getD_of [] hj]
  exact h.2 _ (List.getElem_mem hj)

def l_tutorref01_Apart {R : Type} (o0 : List (List Int)) (K0 : Bool → (List (List Int)) → Option R) : Option R := bi (decide (apOk o0)) (K0 true (markF 0 o0)) none

section
variable {R : Type} (K0 : Bool → (List (List Int)) → Option R) {v : Option R}

theorem ap_in {o : List (List Int)} {i : Nat} (hi : i < o.length) : ∀ (e k : Nat) (o' : List (List Int)), o'.length = o.length → apOk o' → k + e = (o'.getD i []).length →
    Reach (fun m => (run_tutorref01_Apart K0 m).1 ((i : Int) + 1) (o'.set i ((o'.getD i []).take k ++ List.replicate e (-1000 - (i : Int))))) v → Reach (fun m => (run_tutorref01_Apart K0 m).2.1 (i : Int) (k : Int) o') v := by
  intro e
  induction e with
  | zero =>
    intro k o' hl hok hk h
    have hs : o'.length < 4611686018427387904 := hok.1
    refine .step (fun m => ?_) h
    dsimp only [run_tutorref01_Apart]
    unfold s_tutorref01_Apart_5
    have e1 : o'.set i ((o'.getD i []).take k ++ List.replicate 0 (-1000 - (i : Int))) = o' := by
      refine rows_ext (by simp) fun j hj => ?_
      rw [getD_setL]
      split
      · rename_i hc
        rw [← hc.1, List.take_of_length_le (by omega)]
        simp
      · rfl
    rw [e1, br_pos (by omega), Int.toNat_natCast, br_neg (by omega), wr _ (by omega) (by omega)]
  | succ e ih =>
    intro k o' hl hok hk h
    have hs : o'.length < 4611686018427387904 := hok.1
    have hr := apOk_row hok (show i < o'.length by omega)
    refine .step (fun m => ?_) (ih (k + 1) (o'.set i ((o'.getD i []).set k (-1000 - (i : Int)))) (by simpa using hl) (apOk_set hok (by simpa using hr)) ?_ ?_)
    · dsimp only [run_tutorref01_Apart]
      unfold s_tutorref01_Apart_5
      rw [br_pos (by omega), Int.toNat_natCast, br_pos (by omega), br_pos (by omega), br_pos (by omega), wr _ (by omega) (by omega), wr _ (by omega) (by omega), Int.toNat_natCast]
      rfl
    · rw [getD_setL, if_pos ⟨rfl, by omega⟩, List.length_set]
      omega
    · rw [getD_setL, if_pos ⟨rfl, by omega⟩, List.set_set]
      have e2 : ((o'.getD i []).set k (-1000 - (i : Int))).take (k + 1) ++ List.replicate e (-1000 - (i : Int)) = (o'.getD i []).take k ++ List.replicate (e + 1) (-1000 - (i : Int)) := by
        have hk2 : k < (o'.getD i []).length := by omega
        rw [List.replicate_succ, List.take_add_one, List.take_set_of_le (Nat.le_refl k), List.append_assoc]
        congr 1
        have e3 : ((o'.getD i []).set k (-1000 - (i : Int)))[k]? = some (-1000 - (i : Int)) := by rw [List.getElem?_set, if_pos rfl, if_pos hk2]
        rw [e3]
        rfl
      rw [e2]
      exact h

theorem ap_mark : ∀ (d i : Nat) (o : List (List Int)), i + d = o.length → apOk o → Reach (fun m => (run_tutorref01_Apart K0 m).2.2.1 0 (markF i o)) v → Reach (fun m => (run_tutorref01_Apart K0 m).1 (i : Int) o) v := by
  intro d
  induction d with
  | zero =>
    intro i o hi hok h
    have hs : o.length < 4611686018427387904 := hok.1
    refine .step (fun m => ?_) h
    dsimp only [run_tutorref01_Apart]
    unfold s_tutorref01_Apart_2
    have e1 : markF i o = o := by
      refine rows_ext (markF_len i o) fun j hj => ?_
      rw [markF_len] at hj
      rw [markF_get hj, if_neg (by omega)]
    rw [br_neg (by omega), e1]
  | succ d ih =>
    intro i o hi hok h
    have hs : o.length < 4611686018427387904 := hok.1
    have hio : i < o.length := by omega
    have hr := apOk_row hok hio
    refine .step (fun m => ?_) (ap_in K0 hio (o.getD i []).length 0 o rfl hok (by omega) ?_)
    · dsimp only [run_tutorref01_Apart]
      unfold s_tutorref01_Apart_2
      rw [br_pos (by omega)]
      rfl
    · have e1 : (o.getD i []).take 0 ++ List.replicate (o.getD i []).length (-1000 - (i : Int)) = List.replicate (o.getD i []).length (-1000 - (i : Int)) := rfl
      rw [e1]
      have := ih (i + 1) (o.set i (List.replicate (o.getD i []).length (-1000 - (i : Int)))) (by simp; omega) (apOk_set hok (by simpa using hr)) ?_
      · exact this
      · have e2 : markF (i + 1) (o.set i (List.replicate (o.getD i []).length (-1000 - (i : Int)))) = markF i o := by
          refine rows_ext (by simp [markF_len]) fun j hj => ?_
          rw [markF_len, List.length_set] at hj
          rw [markF_get (by simpa using hj), markF_get hj, getD_setL]
          by_cases c1 : i = j
          · subst c1
            rw [if_neg (by omega), if_pos ⟨rfl, hio⟩, if_pos (Nat.le_refl _)]
          · rw [if_neg (show ¬ (i = j ∧ i < o.length) from fun h => c1 h.1)]
            by_cases c2 : i ≤ j
            · rw [if_pos c2, if_pos (by omega)]
            · rw [if_neg c2, if_neg (by omega)]
        rw [e2]
        exact h

theorem ap_grow {o : List (List Int)} {i : Nat} (hi : i < o.length) (hok : apOk o) : ∀ (e k n : Nat), k + e = 6 → n ≤ 17592186044400 + k → 1 ≤ k → Reach (fun m => (run_tutorref01_Apart K0 m).2.2.1 ((i : Int) + 1) o) v →
    Reach (fun m => (run_tutorref01_Apart K0 m).2.2.2.2.2.1 (i : Int) (k : Int) o i n) v := by
  intro e
  have hs : o.length < 4611686018427387904 := hok.1
  induction e with
  | zero =>
    intro k n hk hn h1 h
    refine .step (fun m => ?_) h
    dsimp only [run_tutorref01_Apart]
    unfold s_tutorref01_Apart_13b
    rw [br_neg (by omega), wr _ (by omega) (by omega)]
  | succ e ih =>
    intro k n hk hn h1 h
    refine .step (fun m => ?_) (ih (k + 1) (n + 1) (by omega) (by omega) (by omega) h)
    dsimp only [run_tutorref01_Apart]
    unfold s_tutorref01_Apart_13b
    rw [br_pos (by omega), List.length_singleton, br_pos (by simp [lim]; omega), wr _ (by omega) (by omega)]
    rfl

theorem ap_ext {o : List (List Int)} (hok : apOk o) : ∀ (d i : Nat), i + d = o.length → Reach (fun m => (run_tutorref01_Apart K0 m).2.2.2.2.1 0 o) v → Reach (fun m => (run_tutorref01_Apart K0 m).2.2.1 (i : Int) o) v := by
  intro d
  have hs : o.length < 4611686018427387904 := hok.1
  induction d with
  | zero =>
    intro i hi h
    refine .step (fun m => ?_) h
    dsimp only [run_tutorref01_Apart]
    unfold s_tutorref01_Apart_9
    rw [br_neg (by omega)]
  | succ d ih =>
    intro i hi h
    have hr := apOk_row hok (show i < o.length by omega)
    have h2 := ih (i + 1) (by omega) h
    refine .step (G := fun m => (run_tutorref01_Apart K0 m).2.2.2.1 (i : Int) i 0 o) (fun m => ?_) (.step (fun m => ?_) (ap_grow K0 (show i < o.length by omega) hok 5 1 ((o.getD i []).length + 1) (by omega) (by omega) (by omega) h2))
    · dsimp only [run_tutorref01_Apart]
      unfold s_tutorref01_Apart_9
      rw [br_pos (by omega), br_pos (by omega), Int.toNat_natCast]
    · dsimp only [run_tutorref01_Apart]
      unfold s_tutorref01_Apart_13a
      rw [br_pos (by omega), List.length_singleton, br_pos (by show ((o.getD i []).length + 1) * 8 ≤ 140737488355328; omega), wr _ (by omega) (by omega)]
      rfl

theorem ap_row {o : List (List Int)} (hok : apOk o) {i : Nat} (hi : i < o.length) (hm : ∀ x ∈ o.getD i [], x = -1000 - (i : Int)) : ∀ (e k : Nat), k + e = (o.getD i []).length → Reach (fun m => (run_tutorref01_Apart K0 m).2.2.2.2.1 ((i : Int) + 1) o) v →
    Reach (fun m => (run_tutorref01_Apart K0 m).2.2.2.2.2.2 (i : Int) (k : Int) o) v := by
  intro e
  have hs : o.length < 4611686018427387904 := hok.1
  have hr := apOk_row hok hi
  induction e with
  | zero =>
    intro k hk h
    refine .step (fun m => ?_) h
    dsimp only [run_tutorref01_Apart]
    unfold s_tutorref01_Apart_20
    rw [br_pos (by omega), Int.toNat_natCast, br_neg (by omega), wr _ (by omega) (by omega)]
  | succ e ih =>
    intro k hk h
    refine .step (fun m => ?_) (ih (k + 1) (by omega) h)
    dsimp only [run_tutorref01_Apart]
    unfold s_tutorref01_Apart_20
    have hx : (o.getD i []).getD k 0 = -1000 - (i : Int) := by
      rw [getD_of 0 (by omega)]
      exact hm _ (List.getElem_mem _)
    rw [br_pos (by omega), Int.toNat_natCast, br_pos (by omega), br_pos (by omega), br_pos (by omega), Int.toNat_natCast, hx, wr (-1000 - (i : Int)) (by omega) (by omega), br_ne' rfl, wr _ (by omega) (by omega)]
    rfl

theorem ap_look {o : List (List Int)} (hok : apOk o) (hm : ∀ i, i < o.length → ∀ x ∈ o.getD i [], x = -1000 - (i : Int)) : ∀ (d i : Nat), i + d = o.length → Reach (fun m => (run_tutorref01_Apart K0 m).2.2.2.2.1 (i : Int) o) (K0 true o) := by
  intro d
  have hs : o.length < 4611686018427387904 := hok.1
  induction d with
  | zero =>
    intro i hi
    refine .now fun m => ?_
    dsimp only [run_tutorref01_Apart]
    unfold s_tutorref01_Apart_17
    rw [br_neg (by omega)]
  | succ d ih =>
    intro i hi
    refine .step (fun m => ?_) (ap_row K0 hok (show i < o.length by omega) (hm i (by omega)) (o.getD i []).length 0 (by omega) (ih (i + 1) (by omega)))
    dsimp only [run_tutorref01_Apart]
    unfold s_tutorref01_Apart_17
    rw [br_pos (by omega)]
    rfl
end

theorem ok_tutorref01_Apart {R : Type} (o0 : List (List Int)) (K0 : Bool → (List (List Int)) → Option R) {r : R} (h : l_tutorref01_Apart o0 K0 = some r) : ∃ fuel, e_tutorref01_Apart (run_tutorref01_Apart K0 fuel).1 (run_tutorref01_Apart K0 fuel).2.1 (run_tutorref01_Apart K0 fuel).2.2.1 (run_tutorref01_Apart K0 fuel).2.2.2.1 (run_tutorref01_Apart K0 fuel).2.2.2.2.1 (run_tutorref01_Apart K0 fuel).2.2.2.2.2.1 (run_tutorref01_Apart K0 fuel).2.2.2.2.2.2 K0 o0 = some r := by
  unfold l_tutorref01_Apart at h
  rcases bi_some h with ⟨hs, h⟩ | ⟨_, h⟩
  · have hok : apOk o0 := of_decide_eq_true hs
    rw [← h]
    unfold e_tutorref01_Apart
    have hok2 : apOk (markF 0 o0) := by
      refine ⟨by unfold short; rw [markF_len]; exact hok.1, fun x hx => ?_⟩
      obtain ⟨j, hj, rfl⟩ := List.getElem_of_mem hx
      rw [markF_len] at hj
      rw [← getD_of [] (by rw [markF_len]; exact hj), markF_get hj, if_pos (Nat.zero_le _), List.length_replicate]
      exact apOk_row hok hj
    have hm : ∀ i, i < (markF 0 o0).length → ∀ x ∈ (markF 0 o0).getD i [], x = -1000 - (i : Int) := by
      intro i hi x hx
      rw [markF_len] at hi
      rw [markF_get hi, if_pos (Nat.zero_le _)] at hx
      exact List.eq_of_mem_replicate hx
    exact (ap_mark K0 o0.length 0 o0 (by omega) hok (ap_ext K0 hok2 (markF 0 o0).length 0 (by omega) (ap_look K0 hok2 hm (markF 0 o0).length 0 (by omega)))).get
  · cases h

theorem apart_eq {R : Type} {o0 : List (List Int)} (h : apOk o0) (K0 : Bool → (List (List Int)) → Option R) : l_tutorref01_Apart o0 K0 = K0 true (markF 0 o0) := by
  unfold l_tutorref01_Apart
  rw [br_pos h]

/-- tutor/tutorref01.Kept -/
def l_tutorref01_Kept {R : Type} (b : Nat) (a : List Int) (o0 : List Int) (K0 : Bool → (List Int) → Option R) : Option R :=
  bi (decide (0 ≤ (IntKind.i64.wrap (((b : Nat) : Int) + 2)) ∧ (IntKind.i64.wrap (((b : Nat) : Int) + 2)) ≤ ((o0.length - 0 : Nat) : Int)))
   (l_tutorref01_Same (o0.take b) a
    (fun r1 =>
     bi r1
      (bi (decide (0 ≤ ((b : Nat) : Int) ∧ ((b : Nat) : Int) < (((IntKind.i64.wrap (((b : Nat) : Int) + 2)).toNat : Nat) : Int)))
       (bi ((o0.getD (0 + (((b : Nat) : Int).toNat)) 0) == (-771))
        (bi (decide (0 ≤ (IntKind.i64.wrap (((b : Nat) : Int) + 1)) ∧ (IntKind.i64.wrap (((b : Nat) : Int) + 1)) < (((IntKind.i64.wrap (((b : Nat) : Int) + 2)).toNat : Nat) : Int)))
         (K0 ((o0.getD (0 + ((IntKind.i64.wrap (((b : Nat) : Int) + 1)).toNat)) 0) == (-772)) o0)
         none)
        (K0 false o0))
       none)
      (K0 false o0)))
   none

theorem kept_eq {R : Type} (w : List Int) (K0 : Bool → List Int → Option R) (h : w.length ≤ 17592186043904) : l_tutorref01_Kept w.length w (w ++ [-771, -772]) K0 = K0 true (w ++ [-771, -772]) := by
  unfold l_tutorref01_Kept
  have e1 : IntKind.i64.wrap ((w.length : Int) + 2) = ((w.length + 2 : Nat) : Int) := by rw [wr _ (by omega) (by omega)]; rfl
  have e2 : IntKind.i64.wrap ((w.length : Int) + 1) = ((w.length + 1 : Nat) : Int) := by rw [wr _ (by omega) (by omega)]; rfl
  have hl : (w ++ [-771, -772]).length = w.length + 2 := by simp
  rw [e1, e2, hl, br_pos (by omega), List.take_left, same_eq (by unfold short; omega)]
  simp only [Int.toNat_natCast, Nat.zero_add, Nat.sub_zero]
  have g1 : (w ++ [-771, -772]).getD w.length 0 = -771 := by simp [List.getD_eq_getElem?_getD]
  have g2 : (w ++ [-771, -772]).getD (w.length + 1) 0 = -772 := by
    rw [List.getD_eq_getElem?_getD, List.getElem?_append, if_neg (by omega)]
    simp
  rw [g1, g2, br_pos trivial, br_pos (by omega), br_eq rfl, br_pos (by omega)]
  rfl

/-- tutor/tutorlaw12.PointWords -/
def l_tutorlaw12_PointWords {R : Type} (w : List Int) (K0 : Bool → Option R) : Option R :=
  bi (decide ((w.length : Int) > 300))
   (l_tutorlaw12_live
    (fun r1 =>
     K0 r1))
   (l_tutorref01_Lent w
    (fun r2 r3 =>
     l_point_Beginnings (r3.take r2)
      (fun r4 =>
       l_point_Ends (r3.take r2)
        (fun r5 =>
         bi ((r4.length : Int) != (w.length : Int))
          (K0 false)
          (bi ((r5.length : Int) != (w.length : Int))
           (K0 false)
           (l_tutorref01_Prefixes w
            (fun r6 =>
             bi (decide (0 ≤ (1 : Int) ∧ (1 : Int) ≤ ((r6.length : Nat) : Int)))
              (l_tutorref01_Lists r4 (r6.drop 1)
               (fun r7 =>
                bi (!r7)
                 (K0 false)
                 (l_tutorref01_Suffixes w
                  (fun r8 =>
                   bi (decide (0 ≤ (1 : Int) ∧ (1 : Int) ≤ ((r8.length : Nat) : Int)))
                    (l_tutorref01_Lists r5 (r8.drop 1)
                     (fun r9 =>
                      bi (!r9)
                       (K0 false)
                       (bi (decide ((r4.length + r5.length) * 24 ≤ lim))
                        (l_tutorref01_Apart (r4 ++ r5)
                         (fun r10 r11 =>
                          bi r10
                           (l_tutorref01_Kept r2 w r3
                            (fun r12 r13 =>
                             bi r12
                              (l_tutorlaw12_live
                               (fun r14 =>
                                K0 r14))
                              (K0 false)))
                           (K0 false)))
                        none)))
                    none))))
              none)))))))

theorem law_tutorlaw12_PointWords {R : Type} (w : List Int) (K0 : Bool → Option R) (hw : okW w) : l_tutorlaw12_PointWords w K0 = K0 true := by
  unfold l_tutorlaw12_PointWords
  by_cases hl : (w.length : Int) > 300
  · rw [br_pos hl, live12]
  · have hl2 : w.length ≤ 300 := by omega
    have p1 := preS_len w
    have p2 := sufS_len w
    have s1 : shortR ((preS w).drop 1) := ⟨by unfold short; rw [List.length_drop]; omega, fun x hx => by have := preS_row (List.mem_of_mem_drop hx); unfold short; omega⟩
    have s2 : shortR ((sufS w).drop 1) := ⟨by unfold short; rw [List.length_drop]; omega, fun x hx => by have := sufS_row (List.mem_of_mem_drop hx); unfold short; omega⟩
    rw [br_neg hl, lent_eq _ _ hw.1, List.take_left]
    unfold l_point_Beginnings l_point_Ends
    rw [wpre_eq (by omega)]
    try dsimp only
    rw [br_pos (by omega), wsuf_eq (by omega)]
    try dsimp only
    rw [br_pos (by omega), List.length_drop, p1, br_ne' (by omega), List.length_drop, p2, br_ne' (by omega), rpre_eq (by omega)]
    try dsimp only
    rw [br_pos (by omega), lists_eq s1]
    try dsimp only
    rw [decide_eq_true rfl, Bool.not_true, br_ff, rsuf_eq (by omega)]
    try dsimp only
    rw [br_pos (by omega), lists_eq s2]
    try dsimp only
    rw [decide_eq_true rfl, Bool.not_true, br_ff, br_pos (by simp [lim]; omega), apart_eq ⟨by unfold short; rw [List.length_append, List.length_drop, List.length_drop]; omega, fun x hx => by
      rcases List.mem_append.1 hx with hx | hx
      · have := preS_row (List.mem_of_mem_drop hx); omega
      · have := sufS_row (List.mem_of_mem_drop hx); omega⟩]
    try dsimp only
    rw [br_tt, kept_eq _ _ hw.1, br_tt, live12]

end
end Go.Ev
