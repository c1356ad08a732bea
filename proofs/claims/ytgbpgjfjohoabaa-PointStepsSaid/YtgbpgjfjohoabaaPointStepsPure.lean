/- Functions of the program, as trees of tests over numbers and lists; no program in sight. -/
import Derived.Test.YtgbpgjfjohoabaaEvMach
namespace Go.Ev
set_option linter.unusedVariables false
set_option linter.unusedSimpArgs false
set_option maxRecDepth 100000
set_option maxHeartbeats 4000000

/-- tutor/point.New -/
def l_point_New {R : Type} (how : Int) (n : Int) (K0 : Int → Option R) (K1 : Int → Int → Int → Int → Option R) (K2 : Int → Int → Int → Int → Option R) (K3 : Int → Int → Int → Int → Int → Bool → Option R) : Option R :=
  bi (how == 1)
   (bi (decide (n < 1))
    (K0 1)
    (bi (decide (n > 4096))
     (K0 3)
     (K1 0 0 n 0)))
   (bi (how == 2)
    (bi (decide (n < 1))
     (K0 1)
     (bi (decide (n > 4096))
      (K0 3)
      (K2 0 0 n 0)))
    (bi (how == 3)
     (bi (decide (n < 1))
      (K0 1)
      (bi (decide (n > 4096))
       (K0 3)
       (K3 0 0 n 0 1 false)))
     (K0 1)))

/-- tutor/tutorlaw12.num -/
def l_tutorlaw12_num {R : Type} (e : Int) (K0 : Int → Option R) : Option R :=
  K0 e

/-- (*tutor/point.Search).ended -/
def l_point_Search_ended_linear {R : Type} (o0 : Int) (o0_1 : Int) (o0_2 : Int) (K0 : Bool → Int → Int → Int → Option R) : Option R :=
  K0 (o0_1 == (IntKind.i64.wrap (o0 + 1))) o0 o0_1 o0_2

/-- (tutor/point.linear).next -/
def l_point_linear_next {R : Type} (s : Int) (s_1 : Int) (K0 : Int → Option R) : Option R :=
  K0 (IntKind.i64.wrap (s + 1))

/-- (*tutor/point.Search).Ask -/
def l_point_Search_Ask_linear {R : Type} (o0 : Int) (o0_1 : Int) (o0_2 : Int) (K0 : Int → Bool → Int → Int → Int → Option R) : Option R :=
  l_point_Search_ended_linear o0 o0_1 o0_2
   (fun r1 r2 r3 r4 =>
    bi r1
     (K0 0 false r2 r3 r4)
     (l_point_linear_next r2 r3
      (fun r5 =>
       K0 r5 true r2 r3 r4)))

/-- (*tutor/point.Search).Tell -/
def l_point_Search_Tell_linear {R : Type} (v : Bool) (o0 : Int) (o0_1 : Int) (o0_2 : Int) (K0 : Int → Int → Int → Int → Option R) : Option R :=
  l_point_Search_Ask_linear o0 o0_1 o0_2
   (fun r1 r2 r3 r4 r5 =>
    bi (!r2)
     (K0 7 r3 r4 r5)
     (bi v
      (K0 0 r3 r1 (IntKind.i64.wrap (r5 + 1)))
      (K0 0 r1 r4 (IntKind.i64.wrap (r5 + 1)))))

/-- (*tutor/point.Search).Found -/
def l_point_Search_Found_linear {R : Type} (o0 : Int) (o0_1 : Int) (o0_2 : Int) (K0 : Int → Bool → Int → Int → Int → Option R) : Option R :=
  l_point_Search_ended_linear o0 o0_1 o0_2
   (fun r1 r2 r3 r4 =>
    bi (!r1)
     (K0 0 false r2 r3 r4)
     (K0 r2 true r2 r3 r4))

/-- (*tutor/point.Search).Asked -/
def l_point_Search_Asked_linear {R : Type} (o0 : Int) (o0_1 : Int) (o0_2 : Int) (K0 : Int → Int → Int → Int → Option R) : Option R :=
  K0 o0_2 o0 o0_1 o0_2

/-- (*tutor/point.Search).ended -/
def l_point_Search_ended_binary {R : Type} (o0 : Int) (o0_1 : Int) (o0_2 : Int) (K0 : Bool → Int → Int → Int → Option R) : Option R :=
  K0 (o0_1 == (IntKind.i64.wrap (o0 + 1))) o0 o0_1 o0_2

/-- (tutor/point.binary).next -/
def l_point_binary_next {R : Type} (s : Int) (s_1 : Int) (K0 : Int → Option R) : Option R :=
  K0 (IntKind.i64.wrap (s + (IntKind.i64.wrap ((IntKind.i64.wrap (s_1 - s)).tdiv 2))))

/-- (*tutor/point.Search).Ask -/
def l_point_Search_Ask_binary {R : Type} (o0 : Int) (o0_1 : Int) (o0_2 : Int) (K0 : Int → Bool → Int → Int → Int → Option R) : Option R :=
  l_point_Search_ended_binary o0 o0_1 o0_2
   (fun r1 r2 r3 r4 =>
    bi r1
     (K0 0 false r2 r3 r4)
     (l_point_binary_next r2 r3
      (fun r5 =>
       K0 r5 true r2 r3 r4)))

/-- (tutor/point.binary).told -/
def l_point_binary_told {R : Type} (x1 : Bool) (K0 : Option R) : Option R :=
  K0

/-- (*tutor/point.Search).Tell -/
def l_point_Search_Tell_binary {R : Type} (v : Bool) (o0 : Int) (o0_1 : Int) (o0_2 : Int) (K0 : Int → Int → Int → Int → Option R) : Option R :=
  l_point_Search_Ask_binary o0 o0_1 o0_2
   (fun r1 r2 r3 r4 r5 =>
    bi (!r2)
     (K0 7 r3 r4 r5)
     (bi v
      (l_point_binary_told v
       (K0 0 r3 r1 (IntKind.i64.wrap (r5 + 1))))
      (l_point_binary_told v
       (K0 0 r1 r4 (IntKind.i64.wrap (r5 + 1))))))

/-- (*tutor/point.Search).Found -/
def l_point_Search_Found_binary {R : Type} (o0 : Int) (o0_1 : Int) (o0_2 : Int) (K0 : Int → Bool → Int → Int → Int → Option R) : Option R :=
  l_point_Search_ended_binary o0 o0_1 o0_2
   (fun r1 r2 r3 r4 =>
    bi (!r1)
     (K0 0 false r2 r3 r4)
     (K0 r2 true r2 r3 r4))

/-- (*tutor/point.Search).Asked -/
def l_point_Search_Asked_binary {R : Type} (o0 : Int) (o0_1 : Int) (o0_2 : Int) (K0 : Int → Int → Int → Int → Option R) : Option R :=
  K0 o0_2 o0 o0_1 o0_2

/-- (*tutor/point.Search).ended -/
def l_point_Search_ended_exponential {R : Type} (o0 : Int) (o0_1 : Int) (o0_2 : Int) (o1 : Int) (o1_1 : Bool) (K0 : Bool → Int → Int → Int → Int → Bool → Option R) : Option R :=
  K0 (o0_1 == (IntKind.i64.wrap (o0 + 1))) o0 o0_1 o0_2 o1 o1_1

/-- (*tutor/point.exponential).next -/
def l_point_exponential_next {R : Type} (s : Int) (s_1 : Int) (o0 : Int) (o0_1 : Bool) (K0 : Int → Int → Bool → Option R) : Option R :=
  bi o0_1
   (l_point_binary_next s s_1
    (fun r1 =>
     K0 r1 o0 o0_1))
   (K0 (if (IntKind.i64.wrap (s + 1)) > (IntKind.i64.wrap (s_1 - o0)) then (IntKind.i64.wrap (s + 1)) else (IntKind.i64.wrap (s_1 - o0))) o0 o0_1)

/-- (*tutor/point.Search).Ask -/
def l_point_Search_Ask_exponential {R : Type} (o0 : Int) (o0_1 : Int) (o0_2 : Int) (o1 : Int) (o1_1 : Bool) (K0 : Int → Bool → Int → Int → Int → Int → Bool → Option R) : Option R :=
  l_point_Search_ended_exponential o0 o0_1 o0_2 o1 o1_1
   (fun r1 r2 r3 r4 r5 r6 =>
    bi r1
     (K0 0 false r2 r3 r4 r5 r6)
     (l_point_exponential_next r2 r3 r5 r6
      (fun r7 r8 r9 =>
       K0 r7 true r2 r3 r4 r8 r9)))

/-- (*tutor/point.exponential).told -/
def l_point_exponential_told {R : Type} (v : Bool) (o0 : Int) (o0_1 : Bool) (K0 : Int → Bool → Option R) : Option R :=
  bi o0_1
   (K0 (IntKind.i64.wrap (o0 * 2)) true)
   (K0 (IntKind.i64.wrap (o0 * 2)) (!v))

/-- (*tutor/point.Search).Tell -/
def l_point_Search_Tell_exponential {R : Type} (v : Bool) (o0 : Int) (o0_1 : Int) (o0_2 : Int) (o1 : Int) (o1_1 : Bool) (K0 : Int → Int → Int → Int → Int → Bool → Option R) : Option R :=
  l_point_Search_Ask_exponential o0 o0_1 o0_2 o1 o1_1
   (fun r1 r2 r3 r4 r5 r6 r7 =>
    bi (!r2)
     (K0 7 r3 r4 r5 r6 r7)
     (bi v
      (l_point_exponential_told v r6 r7
       (fun r8 r9 =>
        K0 0 r3 r1 (IntKind.i64.wrap (r5 + 1)) r8 r9))
      (l_point_exponential_told v r6 r7
       (fun r10 r11 =>
        K0 0 r1 r4 (IntKind.i64.wrap (r5 + 1)) r10 r11))))

/-- (*tutor/point.Search).Found -/
def l_point_Search_Found_exponential {R : Type} (o0 : Int) (o0_1 : Int) (o0_2 : Int) (o1 : Int) (o1_1 : Bool) (K0 : Int → Bool → Int → Int → Int → Int → Bool → Option R) : Option R :=
  l_point_Search_ended_exponential o0 o0_1 o0_2 o1 o1_1
   (fun r1 r2 r3 r4 r5 r6 =>
    bi (!r1)
     (K0 0 false r2 r3 r4 r5 r6)
     (K0 r2 true r2 r3 r4 r5 r6))

/-- (*tutor/point.Search).Asked -/
def l_point_Search_Asked_exponential {R : Type} (o0 : Int) (o0_1 : Int) (o0_2 : Int) (o1 : Int) (o1_1 : Bool) (K0 : Int → Int → Int → Int → Int → Bool → Option R) : Option R :=
  K0 o0_2 o0 o0_1 o0_2 o1 o1_1

theorem ask1 {R : Type} {lo hi as : Int} (h : 0 ≤ lo ∧ lo ≤ 4096) (K : Int → Bool → Int → Int → Int → Option R) :
    l_point_Search_Ask_linear lo hi as K = if hi = lo + 1 then K 0 false lo hi as else K (lo + 1) true lo hi as := by
  unfold l_point_Search_Ask_linear l_point_Search_ended_linear l_point_linear_next
  try dsimp only
  rw [wr _ (by omega) (by omega)]
  by_cases c : hi = lo + 1
  · rw [br_eq c, if_pos c]
  · rw [br_eq' c, if_neg c]
theorem tell1 {R : Type} {v : Bool} {lo hi as : Int} (h : 0 ≤ lo ∧ lo ≤ 4096) (c : hi ≠ lo + 1) (K : Int → Int → Int → Int → Option R) :
    l_point_Search_Tell_linear v lo hi as K = K 0 (if v = true then lo else lo + 1) (if v = true then lo + 1 else hi) (IntKind.i64.wrap (as + 1)) := by
  unfold l_point_Search_Tell_linear
  rw [ask1 h, if_neg c]
  cases v <;> rfl
theorem found1 {R : Type} {lo hi as : Int} (h : 0 ≤ lo ∧ lo ≤ 4096) (c : hi = lo + 1) (K : Int → Bool → Int → Int → Int → Option R) :
    l_point_Search_Found_linear lo hi as K = K lo true lo hi as := by
  unfold l_point_Search_Found_linear l_point_Search_ended_linear
  rw [wr _ (by omega) (by omega)]
  have e : (hi == lo + 1) = true := by simp [c]
  rw [e]
  rfl
def midS (lo hi : Int) : Int := lo + (hi - lo).tdiv 2
theorem midS_eq {lo hi : Int} (h : 0 ≤ lo ∧ lo < hi) : midS lo hi = lo + (hi - lo) / 2 := by
  unfold midS
  rw [Int.tdiv_eq_ediv_of_nonneg (by omega)]
theorem bin_next {R : Type} {lo hi : Int} (h : 0 ≤ lo ∧ lo < hi ∧ hi ≤ 4096) (K : Int → Option R) : l_point_binary_next lo hi K = K (midS lo hi) := by
  unfold l_point_binary_next
  try dsimp only
  have e := midS_eq (lo := lo) (hi := hi) (by omega)
  have e2 : (hi - lo).tdiv 2 = (hi - lo) / 2 := Int.tdiv_eq_ediv_of_nonneg (by omega)
  rw [wr (hi - lo) (by omega) (by omega), e2, wr ((hi - lo) / 2) (by omega) (by omega), wr _ (by omega) (by omega), e]
theorem ask2 {R : Type} {lo hi as : Int} (h : 0 ≤ lo ∧ lo < hi ∧ hi ≤ 4096) (K : Int → Bool → Int → Int → Int → Option R) :
    l_point_Search_Ask_binary lo hi as K = if hi = lo + 1 then K 0 false lo hi as else K (midS lo hi) true lo hi as := by
  unfold l_point_Search_Ask_binary l_point_Search_ended_binary
  try dsimp only
  rw [wr _ (by omega) (by omega), bin_next h]
  by_cases c : hi = lo + 1
  · rw [br_eq c, if_pos c]
  · rw [br_eq' c, if_neg c]
theorem tell2 {R : Type} {v : Bool} {lo hi as : Int} (h : 0 ≤ lo ∧ lo < hi ∧ hi ≤ 4096) (c : hi ≠ lo + 1) (K : Int → Int → Int → Int → Option R) :
    l_point_Search_Tell_binary v lo hi as K = K 0 (if v = true then lo else midS lo hi) (if v = true then midS lo hi else hi) (IntKind.i64.wrap (as + 1)) := by
  unfold l_point_Search_Tell_binary
  rw [ask2 h, if_neg c]
  cases v <;> rfl
theorem found2 {R : Type} {lo hi as : Int} (h : 0 ≤ lo ∧ lo ≤ 4096) (c : hi = lo + 1) (K : Int → Bool → Int → Int → Int → Option R) :
    l_point_Search_Found_binary lo hi as K = K lo true lo hi as := by
  unfold l_point_Search_Found_binary l_point_Search_ended_binary
  rw [wr _ (by omega) (by omega)]
  have e : (hi == lo + 1) = true := by simp [c]
  rw [e]
  rfl
def nextS3 (lo hi st : Int) (no : Bool) : Int := if no = true then midS lo hi else if lo + 1 > hi - st then lo + 1 else hi - st
theorem exp_next {R : Type} {lo hi st : Int} {no : Bool} (h : 0 ≤ lo ∧ lo < hi ∧ hi ≤ 4096) (hs : no = false → 1 ≤ st ∧ st ≤ 8192) (K : Int → Int → Bool → Option R) :
    l_point_exponential_next lo hi st no K = K (nextS3 lo hi st no) st no := by
  unfold l_point_exponential_next nextS3
  try dsimp only
  rw [bin_next h]
  cases no with
  | true => rfl
  | false =>
    have hs := hs rfl
    rw [wr (lo + 1) (by omega) (by omega), wr (hi - st) (by omega) (by omega)]
    rfl
theorem ask3 {R : Type} {lo hi as st : Int} {no : Bool} (h : 0 ≤ lo ∧ lo < hi ∧ hi ≤ 4096) (hs : hi ≠ lo + 1 → no = false → 1 ≤ st ∧ st ≤ 8192) (K : Int → Bool → Int → Int → Int → Int → Bool → Option R) :
    l_point_Search_Ask_exponential lo hi as st no K = if hi = lo + 1 then K 0 false lo hi as st no else K (nextS3 lo hi st no) true lo hi as st no := by
  unfold l_point_Search_Ask_exponential l_point_Search_ended_exponential
  try dsimp only
  rw [wr _ (by omega) (by omega)]
  by_cases c : hi = lo + 1
  · rw [br_eq c, if_pos c]
  · rw [br_eq' c, if_neg c, exp_next h (hs c)]
theorem tell3 {R : Type} {v : Bool} {lo hi as st : Int} {no : Bool} (h : 0 ≤ lo ∧ lo < hi ∧ hi ≤ 4096) (hs : hi ≠ lo + 1 → no = false → 1 ≤ st ∧ st ≤ 8192) (c : hi ≠ lo + 1) (K : Int → Int → Int → Int → Int → Bool → Option R) :
    l_point_Search_Tell_exponential v lo hi as st no K = K 0 (if v = true then lo else nextS3 lo hi st no) (if v = true then nextS3 lo hi st no else hi) (IntKind.i64.wrap (as + 1)) (IntKind.i64.wrap (st * 2)) (no || !v) := by
  unfold l_point_Search_Tell_exponential
  rw [ask3 h hs, if_neg c]
  cases v <;> cases no <;> rfl
theorem found3 {R : Type} {lo hi as st : Int} {no : Bool} (h : 0 ≤ lo ∧ lo ≤ 4096) (c : hi = lo + 1) (K : Int → Bool → Int → Int → Int → Int → Bool → Option R) :
    l_point_Search_Found_exponential lo hi as st no K = K lo true lo hi as st no := by
  unfold l_point_Search_Found_exponential l_point_Search_ended_exponential
  rw [wr _ (by omega) (by omega)]
  have e : (hi == lo + 1) = true := by simp [c]
  rw [e]
  rfl

/-- tutor/tutorlaw12.live -/
def l_tutorlaw12_live {R : Type}  (K0 : Bool → Option R) : Option R :=
  l_point_New 2 8
   (fun r1 =>
    l_tutorlaw12_num r1
     (fun r2 =>
      bi (r2 != 0)
       (K0 false)
       (K0 false)))
   (fun r3 r4 r5 r6 =>
    l_tutorlaw12_num r3
     (fun r7 =>
      bi (r7 != 0)
       (K0 false)
       (l_point_Search_Ask_linear r4 r5 r6
        (fun r8 r9 r10 r11 r12 =>
         l_point_Search_Tell_linear true r10 r11 r12
          (fun r13 r14 r15 r16 =>
           l_point_Search_Ask_linear r14 r15 r16
            (fun r17 r18 r19 r20 r21 =>
             l_point_Search_Tell_linear false r19 r20 r21
              (fun r22 r23 r24 r25 =>
               l_point_Search_Ask_linear r23 r24 r25
                (fun r26 r27 r28 r29 r30 =>
                 l_point_Search_Tell_linear false r28 r29 r30
                  (fun r31 r32 r33 r34 =>
                   l_point_Search_Found_linear r32 r33 r34
                    (fun r35 r36 r37 r38 r39 =>
                     bi (r8 == 4)
                      (bi (r17 == 2)
                       (bi (r26 == 3)
                        (bi (r35 == 3)
                         (bi r36
                          (l_point_Search_Asked_linear r37 r38 r39
                           (fun r40 r41 r42 r43 =>
                            K0 (r40 == 3)))
                          (K0 false))
                         (K0 false))
                        (K0 false))
                       (K0 false))
                      (K0 false)))))))))))
   (fun r44 r45 r46 r47 =>
    l_tutorlaw12_num r44
     (fun r48 =>
      bi (r48 != 0)
       (K0 false)
       (l_point_Search_Ask_binary r45 r46 r47
        (fun r49 r50 r51 r52 r53 =>
         l_point_Search_Tell_binary true r51 r52 r53
          (fun r54 r55 r56 r57 =>
           l_point_Search_Ask_binary r55 r56 r57
            (fun r58 r59 r60 r61 r62 =>
             l_point_Search_Tell_binary false r60 r61 r62
              (fun r63 r64 r65 r66 =>
               l_point_Search_Ask_binary r64 r65 r66
                (fun r67 r68 r69 r70 r71 =>
                 l_point_Search_Tell_binary false r69 r70 r71
                  (fun r72 r73 r74 r75 =>
                   l_point_Search_Found_binary r73 r74 r75
                    (fun r76 r77 r78 r79 r80 =>
                     bi (r49 == 4)
                      (bi (r58 == 2)
                       (bi (r67 == 3)
                        (bi (r76 == 3)
                         (bi r77
                          (l_point_Search_Asked_binary r78 r79 r80
                           (fun r81 r82 r83 r84 =>
                            K0 (r81 == 3)))
                          (K0 false))
                         (K0 false))
                        (K0 false))
                       (K0 false))
                      (K0 false)))))))))))
   (fun r85 r86 r87 r88 r89 r90 =>
    l_tutorlaw12_num r85
     (fun r91 =>
      bi (r91 != 0)
       (K0 false)
       (l_point_Search_Ask_exponential r86 r87 r88 r89 r90
        (fun r92 r93 r94 r95 r96 r97 r98 =>
         l_point_Search_Tell_exponential true r94 r95 r96 r97 r98
          (fun r99 r100 r101 r102 r103 r104 =>
           l_point_Search_Ask_exponential r100 r101 r102 r103 r104
            (fun r105 r106 r107 r108 r109 r110 r111 =>
             l_point_Search_Tell_exponential false r107 r108 r109 r110 r111
              (fun r112 r113 r114 r115 r116 r117 =>
               l_point_Search_Ask_exponential r113 r114 r115 r116 r117
                (fun r118 r119 r120 r121 r122 r123 r124 =>
                 l_point_Search_Tell_exponential false r120 r121 r122 r123 r124
                  (fun r125 r126 r127 r128 r129 r130 =>
                   l_point_Search_Found_exponential r126 r127 r128 r129 r130
                    (fun r131 r132 r133 r134 r135 r136 r137 =>
                     bi (r92 == 4)
                      (bi (r105 == 2)
                       (bi (r118 == 3)
                        (bi (r131 == 3)
                         (bi r132
                          (l_point_Search_Asked_exponential r133 r134 r135 r136 r137
                           (fun r138 r139 r140 r141 r142 r143 =>
                            K0 (r138 == 3)))
                          (K0 false))
                         (K0 false))
                        (K0 false))
                       (K0 false))
                      (K0 false)))))))))))

theorem live12 {R : Type} (K0 : Bool → Option R) : l_tutorlaw12_live K0 = K0 true := by kernel_rfl

/-- tutor/tutorlaw12.PointSteps -/
def s_tutorlaw12_PointSteps_7a {R : Type} (g7_7 : Int → Int → Int → Int → Int → Int → Option R) (g7_7b : Int → Int → Int → Int → Int → Int → Option R) (g7_7c : Int → Int → Int → Int → Int → Int → Int → Bool → Option R) (K0 : Bool → Option R) (n : Int) (vat : Int) (i : Int) (o0 : Int) (o0_1 : Int) (o0_2 : Int) : Option R :=
  bi (decide (i ≤ n))
   (l_point_Search_Ask_linear o0 o0_1 o0_2
    (fun r24 r25 r26 r27 r28 =>
     bi (!r25)
      (l_point_Search_Found_linear r26 r27 r28
       (fun r29 r30 r31 r32 r33 =>
        bi r30
         (bi (r29 == vat)
          (l_tutorlaw12_live
           (fun r34 =>
            K0 r34))
          (K0 false))
         (K0 false)))
      (l_point_Search_Tell_linear (decide (r24 > vat)) r26 r27 r28
       (fun r35 r36 r37 r38 =>
        g7_7 n vat (IntKind.i64.wrap (i + 1)) r36 r37 r38))))
   (l_point_Search_Found_linear o0 o0_1 o0_2
    (fun r39 r40 r41 r42 r43 =>
     bi r40
      (bi (r39 == vat)
       (l_tutorlaw12_live
        (fun r44 =>
         K0 r44))
       (K0 false))
      (K0 false)))

/-- tutor/tutorlaw12.PointSteps -/
def s_tutorlaw12_PointSteps_7b {R : Type} (g7_7 : Int → Int → Int → Int → Int → Int → Option R) (g7_7b : Int → Int → Int → Int → Int → Int → Option R) (g7_7c : Int → Int → Int → Int → Int → Int → Int → Bool → Option R) (K0 : Bool → Option R) (n : Int) (vat : Int) (i : Int) (o0 : Int) (o0_1 : Int) (o0_2 : Int) : Option R :=
  bi (decide (i ≤ n))
   (l_point_Search_Ask_binary o0 o0_1 o0_2
    (fun r45 r46 r47 r48 r49 =>
     bi (!r46)
      (l_point_Search_Found_binary r47 r48 r49
       (fun r50 r51 r52 r53 r54 =>
        bi r51
         (bi (r50 == vat)
          (l_tutorlaw12_live
           (fun r55 =>
            K0 r55))
          (K0 false))
         (K0 false)))
      (l_point_Search_Tell_binary (decide (r45 > vat)) r47 r48 r49
       (fun r56 r57 r58 r59 =>
        g7_7b n vat (IntKind.i64.wrap (i + 1)) r57 r58 r59))))
   (l_point_Search_Found_binary o0 o0_1 o0_2
    (fun r60 r61 r62 r63 r64 =>
     bi r61
      (bi (r60 == vat)
       (l_tutorlaw12_live
        (fun r65 =>
         K0 r65))
       (K0 false))
      (K0 false)))

/-- tutor/tutorlaw12.PointSteps -/
def s_tutorlaw12_PointSteps_7c {R : Type} (g7_7 : Int → Int → Int → Int → Int → Int → Option R) (g7_7b : Int → Int → Int → Int → Int → Int → Option R) (g7_7c : Int → Int → Int → Int → Int → Int → Int → Bool → Option R) (K0 : Bool → Option R) (n : Int) (vat : Int) (i : Int) (o0 : Int) (o0_1 : Int) (o0_2 : Int) (o1 : Int) (o1_1 : Bool) : Option R :=
  bi (decide (i ≤ n))
   (l_point_Search_Ask_exponential o0 o0_1 o0_2 o1 o1_1
    (fun r66 r67 r68 r69 r70 r71 r72 =>
     bi (!r67)
      (l_point_Search_Found_exponential r68 r69 r70 r71 r72
       (fun r73 r74 r75 r76 r77 r78 r79 =>
        bi r74
         (bi (r73 == vat)
          (l_tutorlaw12_live
           (fun r80 =>
            K0 r80))
          (K0 false))
         (K0 false)))
      (l_point_Search_Tell_exponential (decide (r66 > vat)) r68 r69 r70 r71 r72
       (fun r81 r82 r83 r84 r85 r86 =>
        g7_7c n vat (IntKind.i64.wrap (i + 1)) r82 r83 r84 r85 r86))))
   (l_point_Search_Found_exponential o0 o0_1 o0_2 o1 o1_1
    (fun r87 r88 r89 r90 r91 r92 r93 =>
     bi r88
      (bi (r87 == vat)
       (l_tutorlaw12_live
        (fun r94 =>
         K0 r94))
       (K0 false))
      (K0 false)))

/-- tutor/tutorlaw12.PointSteps -/
def e_tutorlaw12_PointSteps {R : Type} (g7_7 : Int → Int → Int → Int → Int → Int → Option R) (g7_7b : Int → Int → Int → Int → Int → Int → Option R) (g7_7c : Int → Int → Int → Int → Int → Int → Int → Bool → Option R) (K0 : Bool → Option R) (how : Int) (n : Int) (vat : Int) : Option R :=
  bi (decide (n < 1))
   (l_tutorlaw12_live
    (fun r1 =>
     K0 r1))
   (bi (decide (n > 4096))
    (l_tutorlaw12_live
     (fun r2 =>
      K0 r2))
    (bi (decide (vat < 0))
     (l_tutorlaw12_live
      (fun r3 =>
       K0 r3))
     (bi (decide (vat ≥ n))
      (l_tutorlaw12_live
       (fun r4 =>
        K0 r4))
      (l_point_New (IntKind.i64.wrap (1 + (IntKind.i64.wrap (how.tmod 3)))) n
       (fun r5 =>
        l_tutorlaw12_num r5
         (fun r6 =>
          bi (r6 != 0)
           (K0 false)
           (K0 false)))
       (fun r7 r8 r9 r10 =>
        l_tutorlaw12_num r7
         (fun r11 =>
          bi (r11 != 0)
           (K0 false)
           (g7_7 n vat 0 r8 r9 r10)))
       (fun r12 r13 r14 r15 =>
        l_tutorlaw12_num r12
         (fun r16 =>
          bi (r16 != 0)
           (K0 false)
           (g7_7b n vat 0 r13 r14 r15)))
       (fun r17 r18 r19 r20 r21 r22 =>
        l_tutorlaw12_num r17
         (fun r23 =>
          bi (r23 != 0)
           (K0 false)
           (g7_7c n vat 0 r18 r19 r20 r21 r22)))))))

def run_tutorlaw12_PointSteps {R : Type} (K0 : Bool → Option R) : Nat → (Int → Int → Int → Int → Int → Int → Option R) × (Int → Int → Int → Int → Int → Int → Option R) × (Int → Int → Int → Int → Int → Int → Int → Bool → Option R)
  | 0 => (fun _ _ _ _ _ _ => none, fun _ _ _ _ _ _ => none, fun _ _ _ _ _ _ _ _ => none)
  | n + 1 => (s_tutorlaw12_PointSteps_7a (run_tutorlaw12_PointSteps K0 n).1 (run_tutorlaw12_PointSteps K0 n).2.1 (run_tutorlaw12_PointSteps K0 n).2.2 K0, s_tutorlaw12_PointSteps_7b (run_tutorlaw12_PointSteps K0 n).1 (run_tutorlaw12_PointSteps K0 n).2.1 (run_tutorlaw12_PointSteps K0 n).2.2 K0, s_tutorlaw12_PointSteps_7c (run_tutorlaw12_PointSteps K0 n).1 (run_tutorlaw12_PointSteps K0 n).2.1 (run_tutorlaw12_PointSteps K0 n).2.2 K0)

def l_tutorlaw12_PointSteps {R : Type} (how : Int) (n : Int) (vat : Int) (K0 : Bool → Option R) : Option R :=
  if inI n ∧ inI vat ∧ 0 ≤ how ∧ how ≤ 255 then K0 true else none

theorem stepsA {R : Type} (K0 : Bool → Option R) {n vat : Int} (hn : 1 ≤ n ∧ n ≤ 4096) : ∀ (k : Nat) (i lo hi as : Int), 0 ≤ i → i + (hi - lo) ≤ n → 0 ≤ lo → lo ≤ vat → vat < hi → hi ≤ n → hi - lo ≤ k →
    (run_tutorlaw12_PointSteps K0 k).1 n vat i lo hi as = K0 true
  | 0, i, lo, hi, as, h1, h2, h3, h4, h5, h6, h7 => by omega
  | k + 1, i, lo, hi, as, h1, h2, h3, h4, h5, h6, h7 => by
    have ih := stepsA K0 (vat := vat) hn k
    show s_tutorlaw12_PointSteps_7a (run_tutorlaw12_PointSteps K0 k).1 (run_tutorlaw12_PointSteps K0 k).2.1 (run_tutorlaw12_PointSteps K0 k).2.2 K0 n vat i lo hi as = K0 true
    unfold s_tutorlaw12_PointSteps_7a
    rw [br_pos (by omega), ask1 (by omega)]
    by_cases c : hi = lo + 1
    · rw [if_pos c, found1 (by omega) c, live12]
      have e : lo = vat := by omega
      show bi (lo == vat) (K0 true) (K0 false) = K0 true
      rw [br_eq e]
    · rw [if_neg c, tell1 (by omega) c]
      show (run_tutorlaw12_PointSteps K0 k).1 n vat _ _ _ _ = K0 true
      rw [wr (i + 1) (by omega) (by omega)]
      by_cases d : lo + 1 > vat
      · rw [if_pos (by simpa using d), if_pos (by simpa using d)]
        exact ih _ _ _ _ (by omega) (by omega) (by omega) (by omega) (by omega) (by omega) (by omega)
      · rw [if_neg (by simpa using d), if_neg (by simpa using d)]
        exact ih _ _ _ _ (by omega) (by omega) (by omega) (by omega) (by omega) (by omega) (by omega)

theorem stepsB {R : Type} (K0 : Bool → Option R) {n vat : Int} (hn : 1 ≤ n ∧ n ≤ 4096) : ∀ (k : Nat) (i lo hi as : Int), 0 ≤ i → i + (hi - lo) ≤ n → 0 ≤ lo → lo ≤ vat → vat < hi → hi ≤ n → hi - lo ≤ k →
    (run_tutorlaw12_PointSteps K0 k).2.1 n vat i lo hi as = K0 true
  | 0, i, lo, hi, as, h1, h2, h3, h4, h5, h6, h7 => by omega
  | k + 1, i, lo, hi, as, h1, h2, h3, h4, h5, h6, h7 => by
    have ih := stepsB K0 (vat := vat) hn k
    show s_tutorlaw12_PointSteps_7b (run_tutorlaw12_PointSteps K0 k).1 (run_tutorlaw12_PointSteps K0 k).2.1 (run_tutorlaw12_PointSteps K0 k).2.2 K0 n vat i lo hi as = K0 true
    unfold s_tutorlaw12_PointSteps_7b
    rw [br_pos (by omega), ask2 (by omega)]
    by_cases c : hi = lo + 1
    · rw [if_pos c, found2 (by omega) c, live12]
      have e : lo = vat := by omega
      show bi (lo == vat) (K0 true) (K0 false) = K0 true
      rw [br_eq e]
    · rw [if_neg c, tell2 (by omega) c]
      show (run_tutorlaw12_PointSteps K0 k).2.1 n vat _ _ _ _ = K0 true
      have hm := midS_eq (lo := lo) (hi := hi) (by omega)
      rw [wr (i + 1) (by omega) (by omega), hm]
      by_cases d : lo + (hi - lo) / 2 > vat
      · rw [if_pos (by simpa using d), if_pos (by simpa using d)]
        exact ih _ _ _ _ (by omega) (by omega) (by omega) (by omega) (by omega) (by omega) (by omega)
      · rw [if_neg (by simpa using d), if_neg (by simpa using d)]
        exact ih _ _ _ _ (by omega) (by omega) (by omega) (by omega) (by omega) (by omega) (by omega)

theorem stepsC {R : Type} (K0 : Bool → Option R) {n vat : Int} (hn : 1 ≤ n ∧ n ≤ 4096) : ∀ (k : Nat) (i lo hi as st : Int) (no : Bool), 0 ≤ i → i + (hi - lo) ≤ n → 0 ≤ lo → lo ≤ vat → vat < hi → hi ≤ n → hi - lo ≤ k →
    (hi ≠ lo + 1 → no = false → 1 ≤ st ∧ st ≤ 8192) → (run_tutorlaw12_PointSteps K0 k).2.2 n vat i lo hi as st no = K0 true
  | 0, i, lo, hi, as, st, no, h1, h2, h3, h4, h5, h6, h7, h8 => by omega
  | k + 1, i, lo, hi, as, st, no, h1, h2, h3, h4, h5, h6, h7, h8 => by
    have ih := stepsC K0 (vat := vat) hn k
    show s_tutorlaw12_PointSteps_7c (run_tutorlaw12_PointSteps K0 k).1 (run_tutorlaw12_PointSteps K0 k).2.1 (run_tutorlaw12_PointSteps K0 k).2.2 K0 n vat i lo hi as st no = K0 true
    unfold s_tutorlaw12_PointSteps_7c
    rw [br_pos (by omega), ask3 (by omega) h8]
    by_cases c : hi = lo + 1
    · rw [if_pos c, found3 (by omega) c, live12]
      have e : lo = vat := by omega
      show bi (lo == vat) (K0 true) (K0 false) = K0 true
      rw [br_eq e]
    · rw [if_neg c, tell3 (by omega) h8 c]
      show (run_tutorlaw12_PointSteps K0 k).2.2 n vat _ _ _ _ _ _ = K0 true
      have hm := midS_eq (lo := lo) (hi := hi) (by omega)
      have hx : lo < nextS3 lo hi st no ∧ nextS3 lo hi st no < hi ∧ (no = false → nextS3 lo hi st no = lo + 1 ∨ (nextS3 lo hi st no = hi - st ∧ st ≤ 4094)) := by
        unfold nextS3
        cases no with
        | true => rw [if_pos rfl, hm]; exact ⟨by omega, by omega, fun h => by cases h⟩
        | false =>
          have := h8 c rfl
          rw [if_neg (by decide)]
          split <;> exact ⟨by omega, by omega, fun _ => by omega⟩
      have hw : no = false → IntKind.i64.wrap (st * 2) = st * 2 := fun h => by
        have := h8 c h
        exact wr _ (by omega) (by omega)
      generalize nextS3 lo hi st no = m at hx
      obtain ⟨hx1, hx2, hx3⟩ := hx
      rw [wr (i + 1) (by omega) (by omega)]
      by_cases d : m > vat
      · rw [if_pos (by simpa using d), if_pos (by simpa using d)]
        refine ih _ _ _ _ _ _ (by omega) (by omega) (by omega) (by omega) (by omega) (by omega) (by omega) fun e f => ?_
        have f' : no = false := by cases no <;> simp_all
        have := h8 c f'
        rw [hw f']
        rcases hx3 f' with g | g <;> omega
      · rw [if_neg (by simpa using d), if_neg (by simpa using d)]
        refine ih _ _ _ _ _ _ (by omega) (by omega) (by omega) (by omega) (by omega) (by omega) (by omega) fun e f => ?_
        rw [decide_eq_false d] at f
        simp at f

theorem how_cases {how : Int} (h : 0 ≤ how ∧ how ≤ 255) : IntKind.i64.wrap (1 + IntKind.i64.wrap (how.tmod 3)) = 1 ∨ IntKind.i64.wrap (1 + IntKind.i64.wrap (how.tmod 3)) = 2 ∨ IntKind.i64.wrap (1 + IntKind.i64.wrap (how.tmod 3)) = 3 := by
  have e : how.tmod 3 = how % 3 := Int.tmod_eq_emod_of_nonneg (by omega)
  rw [e, wr (how % 3) (by omega) (by omega), wr _ (by omega) (by omega)]
  omega

theorem new_cases {R : Type} {how n : Int} (h : how = 1 ∨ how = 2 ∨ how = 3) (hn : 1 ≤ n ∧ n ≤ 4096) (K0 : Int → Option R) (K1 K2 : Int → Int → Int → Int → Option R) (K3 : Int → Int → Int → Int → Int → Bool → Option R) :
    l_point_New how n K0 K1 K2 K3 = if how = 1 then K1 0 0 n 0 else if how = 2 then K2 0 0 n 0 else K3 0 0 n 0 1 false := by
  unfold l_point_New
  rcases h with rfl | rfl | rfl
  · rw [br_eq rfl, br_neg (by omega), br_neg (by omega)]
    rfl
  · rw [br_eq' (by decide), br_eq rfl, br_neg (by omega), br_neg (by omega)]
    rfl
  · rw [br_eq' (by decide), br_eq' (by decide), br_eq rfl, br_neg (by omega), br_neg (by omega)]
    rfl

theorem ok_tutorlaw12_PointSteps {R : Type} (how : Int) (n : Int) (vat : Int) (K0 : Bool → Option R) {r : R} (h : l_tutorlaw12_PointSteps how n vat K0 = some r) : ∃ fuel, e_tutorlaw12_PointSteps (run_tutorlaw12_PointSteps K0 fuel).1 (run_tutorlaw12_PointSteps K0 fuel).2.1 (run_tutorlaw12_PointSteps K0 fuel).2.2 K0 how n vat = some r := by
  unfold l_tutorlaw12_PointSteps at h
  split at h
  · rename_i hw
    obtain ⟨⟨n1, n2⟩, ⟨v1, v2⟩, h1, h2⟩ := hw
    refine ⟨n.toNat, ?_⟩
    rw [← h]
    unfold e_tutorlaw12_PointSteps
    rw [live12]
    by_cases c1 : n < 1
    · rw [br_pos c1]
    by_cases c2 : n > 4096
    · rw [br_neg c1, br_pos c2]
    by_cases c3 : vat < 0
    · rw [br_neg c1, br_neg c2, br_pos c3]
    by_cases c4 : vat ≥ n
    · rw [br_neg c1, br_neg c2, br_neg c3, br_pos c4]
    rw [br_neg c1, br_neg c2, br_neg c3, br_neg c4, new_cases (how_cases ⟨h1, h2⟩) (by omega)]
    have hk : n - 0 ≤ (n.toNat : Int) := by omega
    split
    · exact stepsA K0 ⟨by omega, by omega⟩ _ _ _ _ _ (by omega) (by omega) (by omega) (by omega) (by omega) (by omega) hk
    · split
      · exact stepsB K0 ⟨by omega, by omega⟩ _ _ _ _ _ (by omega) (by omega) (by omega) (by omega) (by omega) (by omega) hk
      · exact stepsC K0 ⟨by omega, by omega⟩ _ _ _ _ _ _ _ (by omega) (by omega) (by omega) (by omega) (by omega) (by omega) hk (fun _ _ => by omega)
  · cases h

theorem law_tutorlaw12_PointSteps {R : Type} (how n vat : Int) (K0 : Bool → Option R) (hh : (Lit.int .u8 how).wf = true) (hn : inI n) (hv : inI vat) : l_tutorlaw12_PointSteps how n vat K0 = K0 true := by
  have h : 0 ≤ how ∧ how ≤ 255 := by
    simp [Lit.wf, IntKind.min, IntKind.max, IntKind.bits, IntKind.signed] at hh
    omega
  unfold l_tutorlaw12_PointSteps
  rw [if_pos ⟨hn, hv, h⟩]

end Go.Ev
