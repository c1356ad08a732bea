/- Functions of the program, as trees of tests over numbers and lists; no program in sight. -/
import Derived.Test.YtgbpgjfjohoabaaEvMach
namespace Go.Ev
set_option linter.unusedVariables false
set_option linter.unusedSimpArgs false
set_option maxRecDepth 100000
set_option maxHeartbeats 4000000

/-- tutor/point.New -/
def l_point_New {R : Type} (how : Int) (n : Int) (K0 : Int → Option R) (K1 : Int → Int → Int → Int → Option R) (K2 : Int → Int → Int → Int → Option R) (K3 : Int → Int → Int → Int → Int → Bool → Option R) : Option R :=
  bi (how == 1)
   (bi (decide (n < 1))
    (K0 1)
    (bi (decide (n > 4096))
     (K0 3)
     (K1 0 0 n 0)))
   (bi (how == 2)
    (bi (decide (n < 1))
     (K0 1)
     (bi (decide (n > 4096))
      (K0 3)
      (K2 0 0 n 0)))
    (bi (how == 3)
     (bi (decide (n < 1))
      (K0 1)
      (bi (decide (n > 4096))
       (K0 3)
       (K3 0 0 n 0 1 false)))
     (K0 1)))

theorem new_eq {R : Type} {how n : Int} (h : how = 1 ∨ how = 2 ∨ how = 3) (hn : 1 ≤ n ∧ n ≤ 4096) (K0 : Int → Option R) (K1 K2 : Int → Int → Int → Int → Option R) (K3 : Int → Int → Int → Int → Int → Bool → Option R) :
    l_point_New how n K0 K1 K2 K3 = if how = 1 then K1 0 0 n 0 else if how = 2 then K2 0 0 n 0 else K3 0 0 n 0 1 false := by
  unfold l_point_New
  rcases h with rfl | rfl | rfl
  · rw [br_eq rfl, br_neg (by omega), br_neg (by omega)]
    rfl
  · rw [br_eq' (by decide), br_eq rfl, br_neg (by omega), br_neg (by omega)]
    rfl
  · rw [br_eq' (by decide), br_eq' (by decide), br_eq rfl, br_neg (by omega), br_neg (by omega)]
    rfl

/-- tutor/tutorlaw12.num -/
def l_tutorlaw12_num {R : Type} (e : Int) (K0 : Int → Option R) : Option R :=
  K0 e

/-- (*tutor/point.Search).ended -/
def l_point_Search_ended_linear {R : Type} (o0 : Int) (o0_1 : Int) (o0_2 : Int) (K0 : Bool → Int → Int → Int → Option R) : Option R :=
  K0 (o0_1 == (IntKind.i64.wrap (o0 + 1))) o0 o0_1 o0_2

/-- (tutor/point.linear).next -/
def l_point_linear_next {R : Type} (s : Int) (s_1 : Int) (K0 : Int → Option R) : Option R :=
  K0 (IntKind.i64.wrap (s + 1))

/-- (*tutor/point.Search).Ask -/
def l_point_Search_Ask_linear {R : Type} (o0 : Int) (o0_1 : Int) (o0_2 : Int) (K0 : Int → Bool → Int → Int → Int → Option R) : Option R :=
  l_point_Search_ended_linear o0 o0_1 o0_2
   (fun r1 r2 r3 r4 =>
    bi r1
     (K0 0 false r2 r3 r4)
     (l_point_linear_next r2 r3
      (fun r5 =>
       K0 r5 true r2 r3 r4)))

/-- (*tutor/point.Search).Tell -/
def l_point_Search_Tell_linear {R : Type} (v : Bool) (o0 : Int) (o0_1 : Int) (o0_2 : Int) (K0 : Int → Int → Int → Int → Option R) : Option R :=
  l_point_Search_Ask_linear o0 o0_1 o0_2
   (fun r1 r2 r3 r4 r5 =>
    bi (!r2)
     (K0 7 r3 r4 r5)
     (bi v
      (K0 0 r3 r1 (IntKind.i64.wrap (r5 + 1)))
      (K0 0 r1 r4 (IntKind.i64.wrap (r5 + 1)))))

/-- (*tutor/point.Search).Found -/
def l_point_Search_Found_linear {R : Type} (o0 : Int) (o0_1 : Int) (o0_2 : Int) (K0 : Int → Bool → Int → Int → Int → Option R) : Option R :=
  l_point_Search_ended_linear o0 o0_1 o0_2
   (fun r1 r2 r3 r4 =>
    bi (!r1)
     (K0 0 false r2 r3 r4)
     (K0 r2 true r2 r3 r4))

/-- (*tutor/point.Search).Asked -/
def l_point_Search_Asked_linear {R : Type} (o0 : Int) (o0_1 : Int) (o0_2 : Int) (K0 : Int → Int → Int → Int → Option R) : Option R :=
  K0 o0_2 o0 o0_1 o0_2

/-- (*tutor/point.Search).ended -/
def l_point_Search_ended_binary {R : Type} (o0 : Int) (o0_1 : Int) (o0_2 : Int) (K0 : Bool → Int → Int → Int → Option R) : Option R :=
  K0 (o0_1 == (IntKind.i64.wrap (o0 + 1))) o0 o0_1 o0_2

/-- (tutor/point.binary).next -/
def l_point_binary_next {R : Type} (s : Int) (s_1 : Int) (K0 : Int → Option R) : Option R :=
  K0 (IntKind.i64.wrap (s + (IntKind.i64.wrap ((IntKind.i64.wrap (s_1 - s)).tdiv 2))))

/-- (*tutor/point.Search).Ask -/
def l_point_Search_Ask_binary {R : Type} (o0 : Int) (o0_1 : Int) (o0_2 : Int) (K0 : Int → Bool → Int → Int → Int → Option R) : Option R :=
  l_point_Search_ended_binary o0 o0_1 o0_2
   (fun r1 r2 r3 r4 =>
    bi r1
     (K0 0 false r2 r3 r4)
     (l_point_binary_next r2 r3
      (fun r5 =>
       K0 r5 true r2 r3 r4)))

/-- (tutor/point.binary).told -/
def l_point_binary_told {R : Type} (x1 : Bool) (K0 : Option R) : Option R :=
  K0

/-- (*tutor/point.Search).Tell -/
def l_point_Search_Tell_binary {R : Type} (v : Bool) (o0 : Int) (o0_1 : Int) (o0_2 : Int) (K0 : Int → Int → Int → Int → Option R) : Option R :=
  l_point_Search_Ask_binary o0 o0_1 o0_2
   (fun r1 r2 r3 r4 r5 =>
    bi (!r2)
     (K0 7 r3 r4 r5)
     (bi v
      (l_point_binary_told v
       (K0 0 r3 r1 (IntKind.i64.wrap (r5 + 1))))
      (l_point_binary_told v
       (K0 0 r1 r4 (IntKind.i64.wrap (r5 + 1))))))

/-- (*tutor/point.Search).Found -/
def l_point_Search_Found_binary {R : Type} (o0 : Int) (o0_1 : Int) (o0_2 : Int) (K0 : Int → Bool → Int → Int → Int → Option R) : Option R :=
  l_point_Search_ended_binary o0 o0_1 o0_2
   (fun r1 r2 r3 r4 =>
    bi (!r1)
     (K0 0 false r2 r3 r4)
     (K0 r2 true r2 r3 r4))

/-- (*tutor/point.Search).Asked -/
def l_point_Search_Asked_binary {R : Type} (o0 : Int) (o0_1 : Int) (o0_2 : Int) (K0 : Int → Int → Int → Int → Option R) : Option R :=
  K0 o0_2 o0 o0_1 o0_2

/-- (*tutor/point.Search).ended -/
def l_point_Search_ended_exponential {R : Type} (o0 : Int) (o0_1 : Int) (o0_2 : Int) (o1 : Int) (o1_1 : Bool) (K0 : Bool → Int → Int → Int → Int → Bool → Option R) : Option R :=
  K0 (o0_1 == (IntKind.i64.wrap (o0 + 1))) o0 o0_1 o0_2 o1 o1_1

/-- (*tutor/point.exponential).next -/
def l_point_exponential_next {R : Type} (s : Int) (s_1 : Int) (o0 : Int) (o0_1 : Bool) (K0 : Int → Int → Bool → Option R) : Option R :=
  bi o0_1
   (l_point_binary_next s s_1
    (fun r1 =>
     K0 r1 o0 o0_1))
   (K0 (if (IntKind.i64.wrap (s + 1)) > (IntKind.i64.wrap (s_1 - o0)) then (IntKind.i64.wrap (s + 1)) else (IntKind.i64.wrap (s_1 - o0))) o0 o0_1)

/-- (*tutor/point.Search).Ask -/
def l_point_Search_Ask_exponential {R : Type} (o0 : Int) (o0_1 : Int) (o0_2 : Int) (o1 : Int) (o1_1 : Bool) (K0 : Int → Bool → Int → Int → Int → Int → Bool → Option R) : Option R :=
  l_point_Search_ended_exponential o0 o0_1 o0_2 o1 o1_1
   (fun r1 r2 r3 r4 r5 r6 =>
    bi r1
     (K0 0 false r2 r3 r4 r5 r6)
     (l_point_exponential_next r2 r3 r5 r6
      (fun r7 r8 r9 =>
       K0 r7 true r2 r3 r4 r8 r9)))

/-- (*tutor/point.exponential).told -/
def l_point_exponential_told {R : Type} (v : Bool) (o0 : Int) (o0_1 : Bool) (K0 : Int → Bool → Option R) : Option R :=
  bi o0_1
   (K0 (IntKind.i64.wrap (o0 * 2)) true)
   (K0 (IntKind.i64.wrap (o0 * 2)) (!v))

/-- (*tutor/point.Search).Tell -/
def l_point_Search_Tell_exponential {R : Type} (v : Bool) (o0 : Int) (o0_1 : Int) (o0_2 : Int) (o1 : Int) (o1_1 : Bool) (K0 : Int → Int → Int → Int → Int → Bool → Option R) : Option R :=
  l_point_Search_Ask_exponential o0 o0_1 o0_2 o1 o1_1
   (fun r1 r2 r3 r4 r5 r6 r7 =>
    bi (!r2)
     (K0 7 r3 r4 r5 r6 r7)
     (bi v
      (l_point_exponential_told v r6 r7
       (fun r8 r9 =>
        K0 0 r3 r1 (IntKind.i64.wrap (r5 + 1)) r8 r9))
      (l_point_exponential_told v r6 r7
       (fun r10 r11 =>
        K0 0 r1 r4 (IntKind.i64.wrap (r5 + 1)) r10 r11))))

/-- (*tutor/point.Search).Found -/
def l_point_Search_Found_exponential {R : Type} (o0 : Int) (o0_1 : Int) (o0_2 : Int) (o1 : Int) (o1_1 : Bool) (K0 : Int → Bool → Int → Int → Int → Int → Bool → Option R) : Option R :=
  l_point_Search_ended_exponential o0 o0_1 o0_2 o1 o1_1
   (fun r1 r2 r3 r4 r5 r6 =>
    bi (!r1)
     (K0 0 false r2 r3 r4 r5 r6)
     (K0 r2 true r2 r3 r4 r5 r6))

/-- (*tutor/point.Search).Asked -/
def l_point_Search_Asked_exponential {R : Type} (o0 : Int) (o0_1 : Int) (o0_2 : Int) (o1 : Int) (o1_1 : Bool) (K0 : Int → Int → Int → Int → Int → Bool → Option R) : Option R :=
  K0 o0_2 o0 o0_1 o0_2 o1 o1_1

theorem ask1 {R : Type} {lo hi as : Int} (h : 0 ≤ lo ∧ lo ≤ 4096) (K : Int → Bool → Int → Int → Int → Option R) :
    l_point_Search_Ask_linear lo hi as K = if hi = lo + 1 then K 0 false lo hi as else K (lo + 1) true lo hi as := by
  unfold l_point_Search_Ask_linear l_point_Search_ended_linear l_point_linear_next
  try dsimp only
  rw [wr _ (by omega) (by omega)]
  by_cases c : hi = lo + 1
  · rw [br_eq c, if_pos c]
  · rw [br_eq' c, if_neg c]
theorem tell1 {R : Type} {v : Bool} {lo hi as : Int} (h : 0 ≤ lo ∧ lo ≤ 4096) (c : hi ≠ lo + 1) (K : Int → Int → Int → Int → Option R) :
    l_point_Search_Tell_linear v lo hi as K = K 0 (if v = true then lo else lo + 1) (if v = true then lo + 1 else hi) (IntKind.i64.wrap (as + 1)) := by
  unfold l_point_Search_Tell_linear
  rw [ask1 h, if_neg c]
  cases v <;> rfl
theorem found1 {R : Type} {lo hi as : Int} (h : 0 ≤ lo ∧ lo ≤ 4096) (c : hi = lo + 1) (K : Int → Bool → Int → Int → Int → Option R) :
    l_point_Search_Found_linear lo hi as K = K lo true lo hi as := by
  unfold l_point_Search_Found_linear l_point_Search_ended_linear
  rw [wr _ (by omega) (by omega)]
  have e : (hi == lo + 1) = true := by simp [c]
  rw [e]
  rfl
def midS (lo hi : Int) : Int := lo + (hi - lo).tdiv 2
theorem midS_eq {lo hi : Int} (h : 0 ≤ lo ∧ lo < hi) : midS lo hi = lo + (hi - lo) / 2 := by
  unfold midS
  rw [Int.tdiv_eq_ediv_of_nonneg (by omega)]
theorem bin_next {R : Type} {lo hi : Int} (h : 0 ≤ lo ∧ lo < hi ∧ hi ≤ 4096) (K : Int → Option R) : l_point_binary_next lo hi K = K (midS lo hi) := by
  unfold l_point_binary_next
  try dsimp only
  have e := midS_eq (lo := lo) (hi := hi) (by omega)
  have e2 : (hi - lo).tdiv 2 = (hi - lo) / 2 := Int.tdiv_eq_ediv_of_nonneg (by omega)
  rw [wr (hi - lo) (by omega) (by omega), e2, wr ((hi - lo) / 2) (by omega) (by omega), wr _ (by omega) (by omega), e]
theorem ask2 {R : Type} {lo hi as : Int} (h : 0 ≤ lo ∧ lo < hi ∧ hi ≤ 4096) (K : Int → Bool → Int → Int → Int → Option R) :
    l_point_Search_Ask_binary lo hi as K = if hi = lo + 1 then K 0 false lo hi as else K (midS lo hi) true lo hi as := by
  unfold l_point_Search_Ask_binary l_point_Search_ended_binary
  try dsimp only
  rw [wr _ (by omega) (by omega), bin_next h]
  by_cases c : hi = lo + 1
  · rw [br_eq c, if_pos c]
  · rw [br_eq' c, if_neg c]
theorem tell2 {R : Type} {v : Bool} {lo hi as : Int} (h : 0 ≤ lo ∧ lo < hi ∧ hi ≤ 4096) (c : hi ≠ lo + 1) (K : Int → Int → Int → Int → Option R) :
    l_point_Search_Tell_binary v lo hi as K = K 0 (if v = true then lo else midS lo hi) (if v = true then midS lo hi else hi) (IntKind.i64.wrap (as + 1)) := by
  unfold l_point_Search_Tell_binary
  rw [ask2 h, if_neg c]
  cases v <;> rfl
theorem found2 {R : Type} {lo hi as : Int} (h : 0 ≤ lo ∧ lo ≤ 4096) (c : hi = lo + 1) (K : Int → Bool → Int → Int → Int → Option R) :
    l_point_Search_Found_binary lo hi as K = K lo true lo hi as := by
  unfold l_point_Search_Found_binary l_point_Search_ended_binary
  rw [wr _ (by omega) (by omega)]
  have e : (hi == lo + 1) = true := by simp [c]
  rw [e]
  rfl
def nextS3 (lo hi st : Int) (no : Bool) : Int := if no = true then midS lo hi else if lo + 1 > hi - st then lo + 1 else hi - st
theorem exp_next {R : Type} {lo hi st : Int} {no : Bool} (h : 0 ≤ lo ∧ lo < hi ∧ hi ≤ 4096) (hs : no = false → 1 ≤ st ∧ st ≤ 8192) (K : Int → Int → Bool → Option R) :
    l_point_exponential_next lo hi st no K = K (nextS3 lo hi st no) st no := by
  unfold l_point_exponential_next nextS3
  try dsimp only
  rw [bin_next h]
  cases no with
  | true => rfl
  | false =>
    have hs := hs rfl
    rw [wr (lo + 1) (by omega) (by omega), wr (hi - st) (by omega) (by omega)]
    rfl
theorem ask3 {R : Type} {lo hi as st : Int} {no : Bool} (h : 0 ≤ lo ∧ lo < hi ∧ hi ≤ 4096) (hs : hi ≠ lo + 1 → no = false → 1 ≤ st ∧ st ≤ 8192) (K : Int → Bool → Int → Int → Int → Int → Bool → Option R) :
    l_point_Search_Ask_exponential lo hi as st no K = if hi = lo + 1 then K 0 false lo hi as st no else K (nextS3 lo hi st no) true lo hi as st no := by
  unfold l_point_Search_Ask_exponential l_point_Search_ended_exponential
  try dsimp only
  rw [wr _ (by omega) (by omega)]
  by_cases c : hi = lo + 1
  · rw [br_eq c, if_pos c]
  · rw [br_eq' c, if_neg c, exp_next h (hs c)]
theorem tell3 {R : Type} {v : Bool} {lo hi as st : Int} {no : Bool} (h : 0 ≤ lo ∧ lo < hi ∧ hi ≤ 4096) (hs : hi ≠ lo + 1 → no = false → 1 ≤ st ∧ st ≤ 8192) (c : hi ≠ lo + 1) (K : Int → Int → Int → Int → Int → Bool → Option R) :
    l_point_Search_Tell_exponential v lo hi as st no K = K 0 (if v = true then lo else nextS3 lo hi st no) (if v = true then nextS3 lo hi st no else hi) (IntKind.i64.wrap (as + 1)) (IntKind.i64.wrap (st * 2)) (no || !v) := by
  unfold l_point_Search_Tell_exponential
  rw [ask3 h hs, if_neg c]
  cases v <;> cases no <;> rfl
theorem found3 {R : Type} {lo hi as st : Int} {no : Bool} (h : 0 ≤ lo ∧ lo ≤ 4096) (c : hi = lo + 1) (K : Int → Bool → Int → Int → Int → Int → Bool → Option R) :
    l_point_Search_Found_exponential lo hi as st no K = K lo true lo hi as st no := by
  unfold l_point_Search_Found_exponential l_point_Search_ended_exponential
  rw [wr _ (by omega) (by omega)]
  have e : (hi == lo + 1) = true := by simp [c]
  rw [e]
  rfl

/-- tutor/tutorlaw12.live -/
def l_tutorlaw12_live {R : Type}  (K0 : Bool → Option R) : Option R :=
  l_point_New 2 8
   (fun r1 =>
    l_tutorlaw12_num r1
     (fun r2 =>
      bi (r2 != 0)
       (K0 false)
       (K0 false)))
   (fun r3 r4 r5 r6 =>
    l_tutorlaw12_num r3
     (fun r7 =>
      bi (r7 != 0)
       (K0 false)
       (l_point_Search_Ask_linear r4 r5 r6
        (fun r8 r9 r10 r11 r12 =>
         l_point_Search_Tell_linear true r10 r11 r12
          (fun r13 r14 r15 r16 =>
           l_point_Search_Ask_linear r14 r15 r16
            (fun r17 r18 r19 r20 r21 =>
             l_point_Search_Tell_linear false r19 r20 r21
              (fun r22 r23 r24 r25 =>
               l_point_Search_Ask_linear r23 r24 r25
                (fun r26 r27 r28 r29 r30 =>
                 l_point_Search_Tell_linear false r28 r29 r30
                  (fun r31 r32 r33 r34 =>
                   l_point_Search_Found_linear r32 r33 r34
                    (fun r35 r36 r37 r38 r39 =>
                     bi (r8 == 4)
                      (bi (r17 == 2)
                       (bi (r26 == 3)
                        (bi (r35 == 3)
                         (bi r36
                          (l_point_Search_Asked_linear r37 r38 r39
                           (fun r40 r41 r42 r43 =>
                            K0 (r40 == 3)))
                          (K0 false))
                         (K0 false))
                        (K0 false))
                       (K0 false))
                      (K0 false)))))))))))
   (fun r44 r45 r46 r47 =>
    l_tutorlaw12_num r44
     (fun r48 =>
      bi (r48 != 0)
       (K0 false)
       (l_point_Search_Ask_binary r45 r46 r47
        (fun r49 r50 r51 r52 r53 =>
         l_point_Search_Tell_binary true r51 r52 r53
          (fun r54 r55 r56 r57 =>
           l_point_Search_Ask_binary r55 r56 r57
            (fun r58 r59 r60 r61 r62 =>
             l_point_Search_Tell_binary false r60 r61 r62
              (fun r63 r64 r65 r66 =>
               l_point_Search_Ask_binary r64 r65 r66
                (fun r67 r68 r69 r70 r71 =>
                 l_point_Search_Tell_binary false r69 r70 r71
                  (fun r72 r73 r74 r75 =>
                   l_point_Search_Found_binary r73 r74 r75
                    (fun r76 r77 r78 r79 r80 =>
                     bi (r49 == 4)
                      (bi (r58 == 2)
                       (bi (r67 == 3)
                        (bi (r76 == 3)
                         (bi r77
                          (l_point_Search_Asked_binary r78 r79 r80
                           (fun r81 r82 r83 r84 =>
                            K0 (r81 == 3)))
                          (K0 false))
                         (K0 false))
                        (K0 false))
                       (K0 false))
                      (K0 false)))))))))))
   (fun r85 r86 r87 r88 r89 r90 =>
    l_tutorlaw12_num r85
     (fun r91 =>
      bi (r91 != 0)
       (K0 false)
       (l_point_Search_Ask_exponential r86 r87 r88 r89 r90
        (fun r92 r93 r94 r95 r96 r97 r98 =>
         l_point_Search_Tell_exponential true r94 r95 r96 r97 r98
          (fun r99 r100 r101 r102 r103 r104 =>
           l_point_Search_Ask_exponential r100 r101 r102 r103 r104
            (fun r105 r106 r107 r108 r109 r110 r111 =>
             l_point_Search_Tell_exponential false r107 r108 r109 r110 r111
              (fun r112 r113 r114 r115 r116 r117 =>
               l_point_Search_Ask_exponential r113 r114 r115 r116 r117
                (fun r118 r119 r120 r121 r122 r123 r124 =>
                 l_point_Search_Tell_exponential false r120 r121 r122 r123 r124
                  (fun r125 r126 r127 r128 r129 r130 =>
                   l_point_Search_Found_exponential r126 r127 r128 r129 r130
                    (fun r131 r132 r133 r134 r135 r136 r137 =>
                     bi (r92 == 4)
                      (bi (r105 == 2)
                       (bi (r118 == 3)
                        (bi (r131 == 3)
                         (bi r132
                          (l_point_Search_Asked_exponential r133 r134 r135 r136 r137
                           (fun r138 r139 r140 r141 r142 r143 =>
                            K0 (r138 == 3)))
                          (K0 false))
                         (K0 false))
                        (K0 false))
                       (K0 false))
                      (K0 false)))))))))))

theorem live12 {R : Type} (K0 : Bool → Option R) : l_tutorlaw12_live K0 = K0 true := by kernel_rfl

/-- tutor/tutorref12.Digits -/
def s_tutorref12_Digits_2 {R : Type} (g35_2 : Int → Int → Option R) (K0 : Int → Option R) (n : Int) (k : Int) : Option R :=
  bi (decide (n > 0))
   (g35_2 (IntKind.i64.wrap (n.tdiv 2)) (IntKind.i64.wrap (k + 1)))
   (K0 k)

/-- tutor/tutorref12.Digits -/
def e_tutorref12_Digits {R : Type} (g35_2 : Int → Int → Option R) (K0 : Int → Option R) (n : Int) : Option R :=
  g35_2 n 0

def run_tutorref12_Digits {R : Type} (K0 : Int → Option R) : Nat → Int → Int → Option R
  | 0 => fun _ _ => none
  | n + 1 => s_tutorref12_Digits_2 (run_tutorref12_Digits K0 n) K0

/-- How many binary digits. -/
def dg (n : Nat) : Nat := if h : n = 0 then 0 else dg (n / 2) + 1
theorem dg_zero : dg 0 = 0 := by rw [dg]; rfl
theorem dg_pos {n : Nat} (h : 0 < n) : dg n = dg (n / 2) + 1 := by rw [dg, dif_neg (by omega)]
theorem dg_le : ∀ (k n : Nat), n < 2 ^ k → dg n ≤ k
  | 0, n, h => by
    obtain rfl : n = 0 := by simp at h; exact h
    rw [dg_zero]
    exact Nat.le_refl _
  | k + 1, n, h => by
    by_cases e : n = 0
    · subst e
      rw [dg_zero]
      omega
    · rw [dg_pos (by omega)]
      have := dg_le k (n / 2) (by rw [Nat.pow_succ] at h; omega)
      omega
theorem dg_ge : ∀ (k n : Nat), 2 ^ k ≤ n → k + 1 ≤ dg n
  | 0, n, h => by
    rw [Nat.pow_zero] at h
    rw [dg_pos (by omega)]
    omega
  | k + 1, n, h => by
    rw [Nat.pow_succ] at h
    have := dg_ge k (n / 2) (by omega)
    have hp : 0 < 2 ^ k := Nat.pow_pos (by decide)
    rw [dg_pos (by omega)]
    omega
theorem dg_mono : ∀ (m n : Nat), m ≤ n → dg m ≤ dg n := by
  intro m
  induction m using Nat.strongRecOn with
  | _ m ih =>
    intro n h
    by_cases e : m = 0
    · subst e
      rw [dg_zero]
      omega
    · rw [dg_pos (n := m) (by omega), dg_pos (n := n) (by omega)]
      have := ih (m / 2) (by omega) (n / 2) (by omega)
      omega
def l_tutorref12_Digits {R : Type} (n : Int) (K0 : Int → Option R) : Option R := if 0 ≤ n ∧ n ≤ 9223372036854775807 then K0 (dg n.toNat) else none
theorem digits_run {R : Type} (K0 : Int → Option R) : ∀ (k : Nat) (n c : Int), dg n.toNat < k → 0 ≤ n ∧ n ≤ 9223372036854775807 → 0 ≤ c → c + (dg n.toNat : Int) ≤ 1000 → run_tutorref12_Digits K0 k n c = K0 (c + dg n.toNat)
  | 0, n, c, h, _, _, _ => by omega
  | k + 1, n, c, h1, h2, h3, h4 => by
    show s_tutorref12_Digits_2 (run_tutorref12_Digits K0 k) K0 n c = _
    unfold s_tutorref12_Digits_2
    by_cases e : n > 0
    · have ed : n.tdiv 2 = n / 2 := Int.tdiv_eq_ediv_of_nonneg (by omega)
      have e2 : (n / 2).toNat = n.toNat / 2 := by omega
      have e3 := dg_pos (n := n.toNat) (by omega)
      rw [br_pos e, ed, wr (n / 2) (by omega) (by omega), wr (c + 1) (by omega) (by omega), digits_run K0 k (n / 2) (c + 1) (by rw [e2]; omega) (by omega) (by omega) (by rw [e2]; omega), e2, e3]
      congr 1
      omega
    · have e0 : n.toNat = 0 := by omega
      rw [br_neg e, e0, dg_zero]
      simp
theorem ok_tutorref12_Digits {R : Type} (n : Int) (K0 : Int → Option R) {r : R} (h : l_tutorref12_Digits n K0 = some r) : ∃ fuel, e_tutorref12_Digits (run_tutorref12_Digits K0 fuel) K0 n = some r := by
  unfold l_tutorref12_Digits at h
  split at h
  · rename_i hn
    have := dg_le 63 n.toNat (by omega)
    refine ⟨dg n.toNat + 1, ?_⟩
    unfold e_tutorref12_Digits
    rw [digits_run K0 _ n 0 (by omega) hn (by omega) (by omega)]
    simpa using h
  · cases h

/-- tutor/tutorlaw12.told -/
def l_tutorlaw12_told {R : Type} (v : List Bool) (i : Int) (K0 : Bool → Option R) : Option R :=
  bi (decide ((v.length : Int) > 0))
   (bi (decide ((v.length : Int) = 0))
    none
    (bi (decide (0 ≤ (i.tmod (v.length : Int)) ∧ (i.tmod (v.length : Int)) < ((v.length : Nat) : Int)))
     (K0 (v.getD ((i.tmod (v.length : Int)).toNat) false))
     none))
   (K0 false)

def toldS (v : List Bool) (i : Int) : Bool := if (v.length : Int) > 0 then v.getD ((i % (v.length : Int)).toNat) false else false
theorem told_eq {R : Type} {v : List Bool} {i : Int} (hi : 0 ≤ i) (K0 : Bool → Option R) : l_tutorlaw12_told v i K0 = K0 (toldS v i) := by
  unfold l_tutorlaw12_told toldS
  by_cases c : (v.length : Int) > 0
  · have e : i.tmod (v.length : Int) = i % (v.length : Int) := Int.tmod_eq_emod_of_nonneg hi
    have h1 := Int.emod_nonneg i (b := (v.length : Int)) (by omega)
    have h2 := Int.emod_lt_of_pos i (b := (v.length : Int)) c
    rw [br_pos c, br_neg (by omega), e, br_pos ⟨h1, h2⟩, if_pos c]
  · rw [br_neg c, if_neg c]

/-- tutor/tutorlaw12.PointFinds -/
def s_tutorlaw12_PointFinds_10a {R : Type} (g6_10 : Int → (List Bool) → Int → Int → Int → Int → Int → (List Int) → Option R) (g6_10b : Int → (List Bool) → Int → Int → Int → Int → Int → (List Int) → Option R) (g6_10c : Int → (List Bool) → Int → Int → Int → Int → Int → Int → Bool → (List Int) → Option R) (K0 : Bool → Option R) (n : Int) (v : List Bool) (h : Int) (i : Int) (o0 : Int) (o0_1 : Int) (o0_2 : Int) (o1 : List Int) : Option R :=
  bi (decide (i ≤ n))
   (l_point_Search_Ask_linear o0 o0_1 o0_2
    (fun r22 r23 r24 r25 r26 =>
     bi (!r23)
      (l_point_Search_Found_linear r24 r25 r26
       (fun r27 r28 r29 r30 r31 =>
        bi (h == 2)
         (l_tutorref12_Digits (IntKind.i64.wrap (n - 1))
          (fun r32 =>
           bi (h == 3)
            (l_tutorref12_Digits n
             (fun r33 =>
              bi r28
               (bi (decide (r27 ≥ 0))
                (bi (decide (r27 < n))
                 (bi (decide (0 ≤ r27 ∧ r27 < ((o1.length : Nat) : Int)))
                  (bi ((o1.getD r27.toNat 0) == 1)
                   (bi (decide (0 ≤ (IntKind.i64.wrap (r27 + 1)) ∧ (IntKind.i64.wrap (r27 + 1)) < ((o1.length : Nat) : Int)))
                    (bi ((o1.getD ((IntKind.i64.wrap (r27 + 1)).toNat) 0) == 2)
                     (l_point_Search_Asked_linear r29 r30 r31
                      (fun r34 r35 r36 r37 =>
                       bi (decide (r34 ≤ (IntKind.i64.wrap ((IntKind.i64.wrap (2 * r33)) + 1))))
                        (l_tutorlaw12_live
                         (fun r38 =>
                          K0 r38))
                        (K0 false)))
                     (K0 false))
                    none)
                   (K0 false))
                  none)
                 (K0 false))
                (K0 false))
               (K0 false)))
            (bi r28
             (bi (decide (r27 ≥ 0))
              (bi (decide (r27 < n))
               (bi (decide (0 ≤ r27 ∧ r27 < ((o1.length : Nat) : Int)))
                (bi ((o1.getD r27.toNat 0) == 1)
                 (bi (decide (0 ≤ (IntKind.i64.wrap (r27 + 1)) ∧ (IntKind.i64.wrap (r27 + 1)) < ((o1.length : Nat) : Int)))
                  (bi ((o1.getD ((IntKind.i64.wrap (r27 + 1)).toNat) 0) == 2)
                   (l_point_Search_Asked_linear r29 r30 r31
                    (fun r39 r40 r41 r42 =>
                     bi (decide (r39 ≤ r32))
                      (l_tutorlaw12_live
                       (fun r43 =>
                        K0 r43))
                      (K0 false)))
                   (K0 false))
                  none)
                 (K0 false))
                none)
               (K0 false))
              (K0 false))
             (K0 false))))
         (bi (h == 3)
          (l_tutorref12_Digits n
           (fun r44 =>
            bi r28
             (bi (decide (r27 ≥ 0))
              (bi (decide (r27 < n))
               (bi (decide (0 ≤ r27 ∧ r27 < ((o1.length : Nat) : Int)))
                (bi ((o1.getD r27.toNat 0) == 1)
                 (bi (decide (0 ≤ (IntKind.i64.wrap (r27 + 1)) ∧ (IntKind.i64.wrap (r27 + 1)) < ((o1.length : Nat) : Int)))
                  (bi ((o1.getD ((IntKind.i64.wrap (r27 + 1)).toNat) 0) == 2)
                   (l_point_Search_Asked_linear r29 r30 r31
                    (fun r45 r46 r47 r48 =>
                     bi (decide (r45 ≤ (IntKind.i64.wrap ((IntKind.i64.wrap (2 * r44)) + 1))))
                      (l_tutorlaw12_live
                       (fun r49 =>
                        K0 r49))
                      (K0 false)))
                   (K0 false))
                  none)
                 (K0 false))
                none)
               (K0 false))
              (K0 false))
             (K0 false)))
          (bi r28
           (bi (decide (r27 ≥ 0))
            (bi (decide (r27 < n))
             (bi (decide (0 ≤ r27 ∧ r27 < ((o1.length : Nat) : Int)))
              (bi ((o1.getD r27.toNat 0) == 1)
               (bi (decide (0 ≤ (IntKind.i64.wrap (r27 + 1)) ∧ (IntKind.i64.wrap (r27 + 1)) < ((o1.length : Nat) : Int)))
                (bi ((o1.getD ((IntKind.i64.wrap (r27 + 1)).toNat) 0) == 2)
                 (l_point_Search_Asked_linear r29 r30 r31
                  (fun r50 r51 r52 r53 =>
                   bi (decide (r50 ≤ (IntKind.i64.wrap (n - 1))))
                    (l_tutorlaw12_live
                     (fun r54 =>
                      K0 r54))
                    (K0 false)))
                 (K0 false))
                none)
               (K0 false))
              none)
             (K0 false))
            (K0 false))
           (K0 false)))))
      (bi (decide (r22 < 1))
       (K0 false)
       (bi (decide (r22 ≥ n))
        (K0 false)
        (bi (decide (0 ≤ r22 ∧ r22 < ((o1.length : Nat) : Int)))
         (bi ((o1.getD r22.toNat 0) != 0)
          (K0 false)
          (l_tutorlaw12_told v r22
           (fun r55 =>
            l_point_Search_Tell_linear r55 r24 r25 r26
             (fun r56 r57 r58 r59 =>
              l_tutorlaw12_num r56
               (fun r60 =>
                bi (r60 != 0)
                 (K0 false)
                 (bi (decide (0 ≤ r22 ∧ r22 < ((o1.length : Nat) : Int)))
                  (l_tutorlaw12_told v r22
                   (fun r61 =>
                    bi r61
                     (bi (decide (0 ≤ r22 ∧ r22 < (((o1.set r22.toNat 1).length : Nat) : Int)))
                      (g6_10 n v h (IntKind.i64.wrap (i + 1)) r57 r58 r59 ((o1.set r22.toNat 1).set r22.toNat 2))
                      none)
                     (g6_10 n v h (IntKind.i64.wrap (i + 1)) r57 r58 r59 (o1.set r22.toNat 1))))
                  none))))))
         none)))))
   (l_point_Search_Found_linear o0 o0_1 o0_2
    (fun r62 r63 r64 r65 r66 =>
     bi (h == 2)
      (l_tutorref12_Digits (IntKind.i64.wrap (n - 1))
       (fun r67 =>
        bi (h == 3)
         (l_tutorref12_Digits n
          (fun r68 =>
           bi r63
            (bi (decide (r62 ≥ 0))
             (bi (decide (r62 < n))
              (bi (decide (0 ≤ r62 ∧ r62 < ((o1.length : Nat) : Int)))
               (bi ((o1.getD r62.toNat 0) == 1)
                (bi (decide (0 ≤ (IntKind.i64.wrap (r62 + 1)) ∧ (IntKind.i64.wrap (r62 + 1)) < ((o1.length : Nat) : Int)))
                 (bi ((o1.getD ((IntKind.i64.wrap (r62 + 1)).toNat) 0) == 2)
                  (l_point_Search_Asked_linear r64 r65 r66
                   (fun r69 r70 r71 r72 =>
                    bi (decide (r69 ≤ (IntKind.i64.wrap ((IntKind.i64.wrap (2 * r68)) + 1))))
                     (l_tutorlaw12_live
                      (fun r73 =>
                       K0 r73))
                     (K0 false)))
                  (K0 false))
                 none)
                (K0 false))
               none)
              (K0 false))
             (K0 false))
            (K0 false)))
         (bi r63
          (bi (decide (r62 ≥ 0))
           (bi (decide (r62 < n))
            (bi (decide (0 ≤ r62 ∧ r62 < ((o1.length : Nat) : Int)))
             (bi ((o1.getD r62.toNat 0) == 1)
              (bi (decide (0 ≤ (IntKind.i64.wrap (r62 + 1)) ∧ (IntKind.i64.wrap (r62 + 1)) < ((o1.length : Nat) : Int)))
               (bi ((o1.getD ((IntKind.i64.wrap (r62 + 1)).toNat) 0) == 2)
                (l_point_Search_Asked_linear r64 r65 r66
                 (fun r74 r75 r76 r77 =>
                  bi (decide (r74 ≤ r67))
                   (l_tutorlaw12_live
                    (fun r78 =>
                     K0 r78))
                   (K0 false)))
                (K0 false))
               none)
              (K0 false))
             none)
            (K0 false))
           (K0 false))
          (K0 false))))
      (bi (h == 3)
       (l_tutorref12_Digits n
        (fun r79 =>
         bi r63
          (bi (decide (r62 ≥ 0))
           (bi (decide (r62 < n))
            (bi (decide (0 ≤ r62 ∧ r62 < ((o1.length : Nat) : Int)))
             (bi ((o1.getD r62.toNat 0) == 1)
              (bi (decide (0 ≤ (IntKind.i64.wrap (r62 + 1)) ∧ (IntKind.i64.wrap (r62 + 1)) < ((o1.length : Nat) : Int)))
               (bi ((o1.getD ((IntKind.i64.wrap (r62 + 1)).toNat) 0) == 2)
                (l_point_Search_Asked_linear r64 r65 r66
                 (fun r80 r81 r82 r83 =>
                  bi (decide (r80 ≤ (IntKind.i64.wrap ((IntKind.i64.wrap (2 * r79)) + 1))))
                   (l_tutorlaw12_live
                    (fun r84 =>
                     K0 r84))
                   (K0 false)))
                (K0 false))
               none)
              (K0 false))
             none)
            (K0 false))
           (K0 false))
          (K0 false)))
       (bi r63
        (bi (decide (r62 ≥ 0))
         (bi (decide (r62 < n))
          (bi (decide (0 ≤ r62 ∧ r62 < ((o1.length : Nat) : Int)))
           (bi ((o1.getD r62.toNat 0) == 1)
            (bi (decide (0 ≤ (IntKind.i64.wrap (r62 + 1)) ∧ (IntKind.i64.wrap (r62 + 1)) < ((o1.length : Nat) : Int)))
             (bi ((o1.getD ((IntKind.i64.wrap (r62 + 1)).toNat) 0) == 2)
              (l_point_Search_Asked_linear r64 r65 r66
               (fun r85 r86 r87 r88 =>
                bi (decide (r85 ≤ (IntKind.i64.wrap (n - 1))))
                 (l_tutorlaw12_live
                  (fun r89 =>
                   K0 r89))
                 (K0 false)))
              (K0 false))
             none)
            (K0 false))
           none)
          (K0 false))
         (K0 false))
        (K0 false)))))

/-- tutor/tutorlaw12.PointFinds -/
def s_tutorlaw12_PointFinds_10b {R : Type} (g6_10 : Int → (List Bool) → Int → Int → Int → Int → Int → (List Int) → Option R) (g6_10b : Int → (List Bool) → Int → Int → Int → Int → Int → (List Int) → Option R) (g6_10c : Int → (List Bool) → Int → Int → Int → Int → Int → Int → Bool → (List Int) → Option R) (K0 : Bool → Option R) (n : Int) (v : List Bool) (h : Int) (i : Int) (o0 : Int) (o0_1 : Int) (o0_2 : Int) (o1 : List Int) : Option R :=
  bi (decide (i ≤ n))
   (l_point_Search_Ask_binary o0 o0_1 o0_2
    (fun r90 r91 r92 r93 r94 =>
     bi (!r91)
      (l_point_Search_Found_binary r92 r93 r94
       (fun r95 r96 r97 r98 r99 =>
        bi (h == 2)
         (l_tutorref12_Digits (IntKind.i64.wrap (n - 1))
          (fun r100 =>
           bi (h == 3)
            (l_tutorref12_Digits n
             (fun r101 =>
              bi r96
               (bi (decide (r95 ≥ 0))
                (bi (decide (r95 < n))
                 (bi (decide (0 ≤ r95 ∧ r95 < ((o1.length : Nat) : Int)))
                  (bi ((o1.getD r95.toNat 0) == 1)
                   (bi (decide (0 ≤ (IntKind.i64.wrap (r95 + 1)) ∧ (IntKind.i64.wrap (r95 + 1)) < ((o1.length : Nat) : Int)))
                    (bi ((o1.getD ((IntKind.i64.wrap (r95 + 1)).toNat) 0) == 2)
                     (l_point_Search_Asked_binary r97 r98 r99
                      (fun r102 r103 r104 r105 =>
                       bi (decide (r102 ≤ (IntKind.i64.wrap ((IntKind.i64.wrap (2 * r101)) + 1))))
                        (l_tutorlaw12_live
                         (fun r106 =>
                          K0 r106))
                        (K0 false)))
                     (K0 false))
                    none)
                   (K0 false))
                  none)
                 (K0 false))
                (K0 false))
               (K0 false)))
            (bi r96
             (bi (decide (r95 ≥ 0))
              (bi (decide (r95 < n))
               (bi (decide (0 ≤ r95 ∧ r95 < ((o1.length : Nat) : Int)))
                (bi ((o1.getD r95.toNat 0) == 1)
                 (bi (decide (0 ≤ (IntKind.i64.wrap (r95 + 1)) ∧ (IntKind.i64.wrap (r95 + 1)) < ((o1.length : Nat) : Int)))
                  (bi ((o1.getD ((IntKind.i64.wrap (r95 + 1)).toNat) 0) == 2)
                   (l_point_Search_Asked_binary r97 r98 r99
                    (fun r107 r108 r109 r110 =>
                     bi (decide (r107 ≤ r100))
                      (l_tutorlaw12_live
                       (fun r111 =>
                        K0 r111))
                      (K0 false)))
                   (K0 false))
                  none)
                 (K0 false))
                none)
               (K0 false))
              (K0 false))
             (K0 false))))
         (bi (h == 3)
          (l_tutorref12_Digits n
           (fun r112 =>
            bi r96
             (bi (decide (r95 ≥ 0))
              (bi (decide (r95 < n))
               (bi (decide (0 ≤ r95 ∧ r95 < ((o1.length : Nat) : Int)))
                (bi ((o1.getD r95.toNat 0) == 1)
                 (bi (decide (0 ≤ (IntKind.i64.wrap (r95 + 1)) ∧ (IntKind.i64.wrap (r95 + 1)) < ((o1.length : Nat) : Int)))
                  (bi ((o1.getD ((IntKind.i64.wrap (r95 + 1)).toNat) 0) == 2)
                   (l_point_Search_Asked_binary r97 r98 r99
                    (fun r113 r114 r115 r116 =>
                     bi (decide (r113 ≤ (IntKind.i64.wrap ((IntKind.i64.wrap (2 * r112)) + 1))))
                      (l_tutorlaw12_live
                       (fun r117 =>
                        K0 r117))
                      (K0 false)))
                   (K0 false))
                  none)
                 (K0 false))
                none)
               (K0 false))
              (K0 false))
             (K0 false)))
          (bi r96
           (bi (decide (r95 ≥ 0))
            (bi (decide (r95 < n))
             (bi (decide (0 ≤ r95 ∧ r95 < ((o1.length : Nat) : Int)))
              (bi ((o1.getD r95.toNat 0) == 1)
               (bi (decide (0 ≤ (IntKind.i64.wrap (r95 + 1)) ∧ (IntKind.i64.wrap (r95 + 1)) < ((o1.length : Nat) : Int)))
                (bi ((o1.getD ((IntKind.i64.wrap (r95 + 1)).toNat) 0) == 2)
                 (l_point_Search_Asked_binary r97 r98 r99
                  (fun r118 r119 r120 r121 =>
                   bi (decide (r118 ≤ (IntKind.i64.wrap (n - 1))))
                    (l_tutorlaw12_live
                     (fun r122 =>
                      K0 r122))
                    (K0 false)))
                 (K0 false))
                none)
               (K0 false))
              none)
             (K0 false))
            (K0 false))
           (K0 false)))))
      (bi (decide (r90 < 1))
       (K0 false)
       (bi (decide (r90 ≥ n))
        (K0 false)
        (bi (decide (0 ≤ r90 ∧ r90 < ((o1.length : Nat) : Int)))
         (bi ((o1.getD r90.toNat 0) != 0)
          (K0 false)
          (l_tutorlaw12_told v r90
           (fun r123 =>
            l_point_Search_Tell_binary r123 r92 r93 r94
             (fun r124 r125 r126 r127 =>
              l_tutorlaw12_num r124
               (fun r128 =>
                bi (r128 != 0)
                 (K0 false)
                 (bi (decide (0 ≤ r90 ∧ r90 < ((o1.length : Nat) : Int)))
                  (l_tutorlaw12_told v r90
                   (fun r129 =>
                    bi r129
                     (bi (decide (0 ≤ r90 ∧ r90 < (((o1.set r90.toNat 1).length : Nat) : Int)))
                      (g6_10b n v h (IntKind.i64.wrap (i + 1)) r125 r126 r127 ((o1.set r90.toNat 1).set r90.toNat 2))
                      none)
                     (g6_10b n v h (IntKind.i64.wrap (i + 1)) r125 r126 r127 (o1.set r90.toNat 1))))
                  none))))))
         none)))))
   (l_point_Search_Found_binary o0 o0_1 o0_2
    (fun r130 r131 r132 r133 r134 =>
     bi (h == 2)
      (l_tutorref12_Digits (IntKind.i64.wrap (n - 1))
       (fun r135 =>
        bi (h == 3)
         (l_tutorref12_Digits n
          (fun r136 =>
           bi r131
            (bi (decide (r130 ≥ 0))
             (bi (decide (r130 < n))
              (bi (decide (0 ≤ r130 ∧ r130 < ((o1.length : Nat) : Int)))
               (bi ((o1.getD r130.toNat 0) == 1)
                (bi (decide (0 ≤ (IntKind.i64.wrap (r130 + 1)) ∧ (IntKind.i64.wrap (r130 + 1)) < ((o1.length : Nat) : Int)))
                 (bi ((o1.getD ((IntKind.i64.wrap (r130 + 1)).toNat) 0) == 2)
                  (l_point_Search_Asked_binary r132 r133 r134
                   (fun r137 r138 r139 r140 =>
                    bi (decide (r137 ≤ (IntKind.i64.wrap ((IntKind.i64.wrap (2 * r136)) + 1))))
                     (l_tutorlaw12_live
                      (fun r141 =>
                       K0 r141))
                     (K0 false)))
                  (K0 false))
                 none)
                (K0 false))
               none)
              (K0 false))
             (K0 false))
            (K0 false)))
         (bi r131
          (bi (decide (r130 ≥ 0))
           (bi (decide (r130 < n))
            (bi (decide (0 ≤ r130 ∧ r130 < ((o1.length : Nat) : Int)))
             (bi ((o1.getD r130.toNat 0) == 1)
              (bi (decide (0 ≤ (IntKind.i64.wrap (r130 + 1)) ∧ (IntKind.i64.wrap (r130 + 1)) < ((o1.length : Nat) : Int)))
               (bi ((o1.getD ((IntKind.i64.wrap (r130 + 1)).toNat) 0) == 2)
                (l_point_Search_Asked_binary r132 r133 r134
                 (fun r142 r143 r144 r145 =>
                  bi (decide (r142 ≤ r135))
                   (l_tutorlaw12_live
                    (fun r146 =>
                     K0 r146))
                   (K0 false)))
                (K0 false))
               none)
              (K0 false))
             none)
            (K0 false))
           (K0 false))
          (K0 false))))
      (bi (h == 3)
       (l_tutorref12_Digits n
        (fun r147 =>
         bi r131
          (bi (decide (r130 ≥ 0))
           (bi (decide (r130 < n))
            (bi (decide (0 ≤ r130 ∧ r130 < ((o1.length : Nat) : Int)))
             (bi ((o1.getD r130.toNat 0) == 1)
              (bi (decide (0 ≤ (IntKind.i64.wrap (r130 + 1)) ∧ (IntKind.i64.wrap (r130 + 1)) < ((o1.length : Nat) : Int)))
               (bi ((o1.getD ((IntKind.i64.wrap (r130 + 1)).toNat) 0) == 2)
                (l_point_Search_Asked_binary r132 r133 r134
                 (fun r148 r149 r150 r151 =>
                  bi (decide (r148 ≤ (IntKind.i64.wrap ((IntKind.i64.wrap (2 * r147)) + 1))))
                   (l_tutorlaw12_live
                    (fun r152 =>
                     K0 r152))
                   (K0 false)))
                (K0 false))
               none)
              (K0 false))
             none)
            (K0 false))
           (K0 false))
          (K0 false)))
       (bi r131
        (bi (decide (r130 ≥ 0))
         (bi (decide (r130 < n))
          (bi (decide (0 ≤ r130 ∧ r130 < ((o1.length : Nat) : Int)))
           (bi ((o1.getD r130.toNat 0) == 1)
            (bi (decide (0 ≤ (IntKind.i64.wrap (r130 + 1)) ∧ (IntKind.i64.wrap (r130 + 1)) < ((o1.length : Nat) : Int)))
             (bi ((o1.getD ((IntKind.i64.wrap (r130 + 1)).toNat) 0) == 2)
              (l_point_Search_Asked_binary r132 r133 r134
               (fun r153 r154 r155 r156 =>
                bi (decide (r153 ≤ (IntKind.i64.wrap (n - 1))))
                 (l_tutorlaw12_live
                  (fun r157 =>
                   K0 r157))
                 (K0 false)))
              (K0 false))
             none)
            (K0 false))
           none)
          (K0 false))
         (K0 false))
        (K0 false)))))

/-- tutor/tutorlaw12.PointFinds -/
def s_tutorlaw12_PointFinds_10c {R : Type} (g6_10 : Int → (List Bool) → Int → Int → Int → Int → Int → (List Int) → Option R) (g6_10b : Int → (List Bool) → Int → Int → Int → Int → Int → (List Int) → Option R) (g6_10c : Int → (List Bool) → Int → Int → Int → Int → Int → Int → Bool → (List Int) → Option R) (K0 : Bool → Option R) (n : Int) (v : List Bool) (h : Int) (i : Int) (o0 : Int) (o0_1 : Int) (o0_2 : Int) (o1 : Int) (o1_1 : Bool) (o2 : List Int) : Option R :=
  bi (decide (i ≤ n))
   (l_point_Search_Ask_exponential o0 o0_1 o0_2 o1 o1_1
    (fun r158 r159 r160 r161 r162 r163 r164 =>
     bi (!r159)
      (l_point_Search_Found_exponential r160 r161 r162 r163 r164
       (fun r165 r166 r167 r168 r169 r170 r171 =>
        bi (h == 2)
         (l_tutorref12_Digits (IntKind.i64.wrap (n - 1))
          (fun r172 =>
           bi (h == 3)
            (l_tutorref12_Digits n
             (fun r173 =>
              bi r166
               (bi (decide (r165 ≥ 0))
                (bi (decide (r165 < n))
                 (bi (decide (0 ≤ r165 ∧ r165 < ((o2.length : Nat) : Int)))
                  (bi ((o2.getD r165.toNat 0) == 1)
                   (bi (decide (0 ≤ (IntKind.i64.wrap (r165 + 1)) ∧ (IntKind.i64.wrap (r165 + 1)) < ((o2.length : Nat) : Int)))
                    (bi ((o2.getD ((IntKind.i64.wrap (r165 + 1)).toNat) 0) == 2)
                     (l_point_Search_Asked_exponential r167 r168 r169 r170 r171
                      (fun r174 r175 r176 r177 r178 r179 =>
                       bi (decide (r174 ≤ (IntKind.i64.wrap ((IntKind.i64.wrap (2 * r173)) + 1))))
                        (l_tutorlaw12_live
                         (fun r180 =>
                          K0 r180))
                        (K0 false)))
                     (K0 false))
                    none)
                   (K0 false))
                  none)
                 (K0 false))
                (K0 false))
               (K0 false)))
            (bi r166
             (bi (decide (r165 ≥ 0))
              (bi (decide (r165 < n))
               (bi (decide (0 ≤ r165 ∧ r165 < ((o2.length : Nat) : Int)))
                (bi ((o2.getD r165.toNat 0) == 1)
                 (bi (decide (0 ≤ (IntKind.i64.wrap (r165 + 1)) ∧ (IntKind.i64.wrap (r165 + 1)) < ((o2.length : Nat) : Int)))
                  (bi ((o2.getD ((IntKind.i64.wrap (r165 + 1)).toNat) 0) == 2)
                   (l_point_Search_Asked_exponential r167 r168 r169 r170 r171
                    (fun r181 r182 r183 r184 r185 r186 =>
                     bi (decide (r181 ≤ r172))
                      (l_tutorlaw12_live
                       (fun r187 =>
                        K0 r187))
                      (K0 false)))
                   (K0 false))
                  none)
                 (K0 false))
                none)
               (K0 false))
              (K0 false))
             (K0 false))))
         (bi (h == 3)
          (l_tutorref12_Digits n
           (fun r188 =>
            bi r166
             (bi (decide (r165 ≥ 0))
              (bi (decide (r165 < n))
               (bi (decide (0 ≤ r165 ∧ r165 < ((o2.length : Nat) : Int)))
                (bi ((o2.getD r165.toNat 0) == 1)
                 (bi (decide (0 ≤ (IntKind.i64.wrap (r165 + 1)) ∧ (IntKind.i64.wrap (r165 + 1)) < ((o2.length : Nat) : Int)))
                  (bi ((o2.getD ((IntKind.i64.wrap (r165 + 1)).toNat) 0) == 2)
                   (l_point_Search_Asked_exponential r167 r168 r169 r170 r171
                    (fun r189 r190 r191 r192 r193 r194 =>
                     bi (decide (r189 ≤ (IntKind.i64.wrap ((IntKind.i64.wrap (2 * r188)) + 1))))
                      (l_tutorlaw12_live
                       (fun r195 =>
                        K0 r195))
                      (K0 false)))
                   (K0 false))
                  none)
                 (K0 false))
                none)
               (K0 false))
              (K0 false))
             (K0 false)))
          (bi r166
           (bi (decide (r165 ≥ 0))
            (bi (decide (r165 < n))
             (bi (decide (0 ≤ r165 ∧ r165 < ((o2.length : Nat) : Int)))
              (bi ((o2.getD r165.toNat 0) == 1)
               (bi (decide (0 ≤ (IntKind.i64.wrap (r165 + 1)) ∧ (IntKind.i64.wrap (r165 + 1)) < ((o2.length : Nat) : Int)))
                (bi ((o2.getD ((IntKind.i64.wrap (r165 + 1)).toNat) 0) == 2)
                 (l_point_Search_Asked_exponential r167 r168 r169 r170 r171
                  (fun r196 r197 r198 r199 r200 r201 =>
                   bi (decide (r196 ≤ (IntKind.i64.wrap (n - 1))))
                    (l_tutorlaw12_live
                     (fun r202 =>
                      K0 r202))
                    (K0 false)))
                 (K0 false))
                none)
               (K0 false))
              none)
             (K0 false))
            (K0 false))
           (K0 false)))))
      (bi (decide (r158 < 1))
       (K0 false)
       (bi (decide (r158 ≥ n))
        (K0 false)
        (bi (decide (0 ≤ r158 ∧ r158 < ((o2.length : Nat) : Int)))
         (bi ((o2.getD r158.toNat 0) != 0)
          (K0 false)
          (l_tutorlaw12_told v r158
           (fun r203 =>
            l_point_Search_Tell_exponential r203 r160 r161 r162 r163 r164
             (fun r204 r205 r206 r207 r208 r209 =>
              l_tutorlaw12_num r204
               (fun r210 =>
                bi (r210 != 0)
                 (K0 false)
                 (bi (decide (0 ≤ r158 ∧ r158 < ((o2.length : Nat) : Int)))
                  (l_tutorlaw12_told v r158
                   (fun r211 =>
                    bi r211
                     (bi (decide (0 ≤ r158 ∧ r158 < (((o2.set r158.toNat 1).length : Nat) : Int)))
                      (g6_10c n v h (IntKind.i64.wrap (i + 1)) r205 r206 r207 r208 r209 ((o2.set r158.toNat 1).set r158.toNat 2))
                      none)
                     (g6_10c n v h (IntKind.i64.wrap (i + 1)) r205 r206 r207 r208 r209 (o2.set r158.toNat 1))))
                  none))))))
         none)))))
   (l_point_Search_Found_exponential o0 o0_1 o0_2 o1 o1_1
    (fun r212 r213 r214 r215 r216 r217 r218 =>
     bi (h == 2)
      (l_tutorref12_Digits (IntKind.i64.wrap (n - 1))
       (fun r219 =>
        bi (h == 3)
         (l_tutorref12_Digits n
          (fun r220 =>
           bi r213
            (bi (decide (r212 ≥ 0))
             (bi (decide (r212 < n))
              (bi (decide (0 ≤ r212 ∧ r212 < ((o2.length : Nat) : Int)))
               (bi ((o2.getD r212.toNat 0) == 1)
                (bi (decide (0 ≤ (IntKind.i64.wrap (r212 + 1)) ∧ (IntKind.i64.wrap (r212 + 1)) < ((o2.length : Nat) : Int)))
                 (bi ((o2.getD ((IntKind.i64.wrap (r212 + 1)).toNat) 0) == 2)
                  (l_point_Search_Asked_exponential r214 r215 r216 r217 r218
                   (fun r221 r222 r223 r224 r225 r226 =>
                    bi (decide (r221 ≤ (IntKind.i64.wrap ((IntKind.i64.wrap (2 * r220)) + 1))))
                     (l_tutorlaw12_live
                      (fun r227 =>
                       K0 r227))
                     (K0 false)))
                  (K0 false))
                 none)
                (K0 false))
               none)
              (K0 false))
             (K0 false))
            (K0 false)))
         (bi r213
          (bi (decide (r212 ≥ 0))
           (bi (decide (r212 < n))
            (bi (decide (0 ≤ r212 ∧ r212 < ((o2.length : Nat) : Int)))
             (bi ((o2.getD r212.toNat 0) == 1)
              (bi (decide (0 ≤ (IntKind.i64.wrap (r212 + 1)) ∧ (IntKind.i64.wrap (r212 + 1)) < ((o2.length : Nat) : Int)))
               (bi ((o2.getD ((IntKind.i64.wrap (r212 + 1)).toNat) 0) == 2)
                (l_point_Search_Asked_exponential r214 r215 r216 r217 r218
                 (fun r228 r229 r230 r231 r232 r233 =>
                  bi (decide (r228 ≤ r219))
                   (l_tutorlaw12_live
                    (fun r234 =>
                     K0 r234))
                   (K0 false)))
                (K0 false))
               none)
              (K0 false))
             none)
            (K0 false))
           (K0 false))
          (K0 false))))
      (bi (h == 3)
       (l_tutorref12_Digits n
        (fun r235 =>
         bi r213
          (bi (decide (r212 ≥ 0))
           (bi (decide (r212 < n))
            (bi (decide (0 ≤ r212 ∧ r212 < ((o2.length : Nat) : Int)))
             (bi ((o2.getD r212.toNat 0) == 1)
              (bi (decide (0 ≤ (IntKind.i64.wrap (r212 + 1)) ∧ (IntKind.i64.wrap (r212 + 1)) < ((o2.length : Nat) : Int)))
               (bi ((o2.getD ((IntKind.i64.wrap (r212 + 1)).toNat) 0) == 2)
                (l_point_Search_Asked_exponential r214 r215 r216 r217 r218
                 (fun r236 r237 r238 r239 r240 r241 =>
                  bi (decide (r236 ≤ (IntKind.i64.wrap ((IntKind.i64.wrap (2 * r235)) + 1))))
                   (l_tutorlaw12_live
                    (fun r242 =>
                     K0 r242))
                   (K0 false)))
                (K0 false))
               none)
              (K0 false))
             none)
            (K0 false))
           (K0 false))
          (K0 false)))
       (bi r213
        (bi (decide (r212 ≥ 0))
         (bi (decide (r212 < n))
          (bi (decide (0 ≤ r212 ∧ r212 < ((o2.length : Nat) : Int)))
           (bi ((o2.getD r212.toNat 0) == 1)
            (bi (decide (0 ≤ (IntKind.i64.wrap (r212 + 1)) ∧ (IntKind.i64.wrap (r212 + 1)) < ((o2.length : Nat) : Int)))
             (bi ((o2.getD ((IntKind.i64.wrap (r212 + 1)).toNat) 0) == 2)
              (l_point_Search_Asked_exponential r214 r215 r216 r217 r218
               (fun r243 r244 r245 r246 r247 r248 =>
                bi (decide (r243 ≤ (IntKind.i64.wrap (n - 1))))
                 (l_tutorlaw12_live
                  (fun r249 =>
                   K0 r249))
                 (K0 false)))
              (K0 false))
             none)
            (K0 false))
           none)
          (K0 false))
         (K0 false))
        (K0 false)))))

/-- tutor/tutorlaw12.PointFinds -/
def e_tutorlaw12_PointFinds {R : Type} (g6_10 : Int → (List Bool) → Int → Int → Int → Int → Int → (List Int) → Option R) (g6_10b : Int → (List Bool) → Int → Int → Int → Int → Int → (List Int) → Option R) (g6_10c : Int → (List Bool) → Int → Int → Int → Int → Int → Int → Bool → (List Int) → Option R) (K0 : Bool → Option R) (how : Int) (n : Int) (v : List Bool) : Option R :=
  bi (decide (n < 1))
   (l_tutorlaw12_live
    (fun r1 =>
     K0 r1))
   (bi (decide (n > 300))
    (l_tutorlaw12_live
     (fun r2 =>
      K0 r2))
    (l_point_New (IntKind.i64.wrap (1 + (IntKind.i64.wrap (how.tmod 3)))) n
     (fun r3 =>
      l_tutorlaw12_num r3
       (fun r4 =>
        bi (r4 != 0)
         (K0 false)
         (K0 false)))
     (fun r5 r6 r7 r8 =>
      l_tutorlaw12_num r5
       (fun r9 =>
        bi (r9 != 0)
         (K0 false)
         (bi (decide (0 ≤ (IntKind.i64.wrap (n + 1)) ∧ (IntKind.i64.wrap (n + 1)) ≤ (IntKind.i64.wrap (n + 1)) ∧ (IntKind.i64.wrap (n + 1)) ≤ 1073741824))
          (bi (decide (0 ≤ (0 : Int) ∧ (0 : Int) < (((List.replicate (IntKind.i64.wrap (n + 1)).toNat (0 : Int)).length : Nat) : Int)))
           (bi (decide (0 ≤ n ∧ n < ((((List.replicate (IntKind.i64.wrap (n + 1)).toNat (0 : Int)).set 0 1).length : Nat) : Int)))
            (g6_10 n v (IntKind.i64.wrap (1 + (IntKind.i64.wrap (how.tmod 3)))) 0 r6 r7 r8 (((List.replicate (IntKind.i64.wrap (n + 1)).toNat (0 : Int)).set 0 1).set n.toNat 2))
            none)
           none)
          none)))
     (fun r10 r11 r12 r13 =>
      l_tutorlaw12_num r10
       (fun r14 =>
        bi (r14 != 0)
         (K0 false)
         (bi (decide (0 ≤ (IntKind.i64.wrap (n + 1)) ∧ (IntKind.i64.wrap (n + 1)) ≤ (IntKind.i64.wrap (n + 1)) ∧ (IntKind.i64.wrap (n + 1)) ≤ 1073741824))
          (bi (decide (0 ≤ (0 : Int) ∧ (0 : Int) < (((List.replicate (IntKind.i64.wrap (n + 1)).toNat (0 : Int)).length : Nat) : Int)))
           (bi (decide (0 ≤ n ∧ n < ((((List.replicate (IntKind.i64.wrap (n + 1)).toNat (0 : Int)).set 0 1).length : Nat) : Int)))
            (g6_10b n v (IntKind.i64.wrap (1 + (IntKind.i64.wrap (how.tmod 3)))) 0 r11 r12 r13 (((List.replicate (IntKind.i64.wrap (n + 1)).toNat (0 : Int)).set 0 1).set n.toNat 2))
            none)
           none)
          none)))
     (fun r15 r16 r17 r18 r19 r20 =>
      l_tutorlaw12_num r15
       (fun r21 =>
        bi (r21 != 0)
         (K0 false)
         (bi (decide (0 ≤ (IntKind.i64.wrap (n + 1)) ∧ (IntKind.i64.wrap (n + 1)) ≤ (IntKind.i64.wrap (n + 1)) ∧ (IntKind.i64.wrap (n + 1)) ≤ 1073741824))
          (bi (decide (0 ≤ (0 : Int) ∧ (0 : Int) < (((List.replicate (IntKind.i64.wrap (n + 1)).toNat (0 : Int)).length : Nat) : Int)))
           (bi (decide (0 ≤ n ∧ n < ((((List.replicate (IntKind.i64.wrap (n + 1)).toNat (0 : Int)).set 0 1).length : Nat) : Int)))
            (g6_10c n v (IntKind.i64.wrap (1 + (IntKind.i64.wrap (how.tmod 3)))) 0 r16 r17 r18 r19 r20 (((List.replicate (IntKind.i64.wrap (n + 1)).toNat (0 : Int)).set 0 1).set n.toNat 2))
            none)
           none)
          none)))))

def run_tutorlaw12_PointFinds {R : Type} (K0 : Bool → Option R) : Nat → (Int → (List Bool) → Int → Int → Int → Int → Int → (List Int) → Option R) × (Int → (List Bool) → Int → Int → Int → Int → Int → (List Int) → Option R) × (Int → (List Bool) → Int → Int → Int → Int → Int → Int → Bool → (List Int) → Option R)
  | 0 => (fun _ _ _ _ _ _ _ _ => none, fun _ _ _ _ _ _ _ _ => none, fun _ _ _ _ _ _ _ _ _ _ => none)
  | n + 1 => (s_tutorlaw12_PointFinds_10a (run_tutorlaw12_PointFinds K0 n).1 (run_tutorlaw12_PointFinds K0 n).2.1 (run_tutorlaw12_PointFinds K0 n).2.2 K0, s_tutorlaw12_PointFinds_10b (run_tutorlaw12_PointFinds K0 n).1 (run_tutorlaw12_PointFinds K0 n).2.1 (run_tutorlaw12_PointFinds K0 n).2.2 K0, s_tutorlaw12_PointFinds_10c (run_tutorlaw12_PointFinds K0 n).1 (run_tutorlaw12_PointFinds K0 n).2.1 (run_tutorlaw12_PointFinds K0 n).2.2 K0)

def l_tutorlaw12_PointFinds {R : Type} (how : Int) (n : Int) (v : List Bool) (K0 : Bool → Option R) : Option R :=
  if inI n ∧ 0 ≤ how ∧ how ≤ 255 then K0 true else none

theorem howF {how : Int} (h : 0 ≤ how ∧ how ≤ 255) : IntKind.i64.wrap (1 + IntKind.i64.wrap (how.tmod 3)) = 1 ∨ IntKind.i64.wrap (1 + IntKind.i64.wrap (how.tmod 3)) = 2 ∨ IntKind.i64.wrap (1 + IntKind.i64.wrap (how.tmod 3)) = 3 := by
  have e : how.tmod 3 = how % 3 := Int.tmod_eq_emod_of_nonneg (by omega)
  rw [e, wr (how % 3) (by omega) (by omega), wr _ (by omega) (by omega)]
  omega

/-- What is written down of the places. -/
structure Js (n lo hi : Int) (l : List Int) : Prop where
  len : (l.length : Int) = n + 1
  b : 0 ≤ lo ∧ lo < hi ∧ hi ≤ n
  lo1 : l.getD lo.toNat 0 = 1
  hi2 : l.getD hi.toNat 0 = 2
  mid : ∀ j, lo < j → j < hi → l.getD j.toNat 0 = 0

theorem getD_set {l : List Int} {i j : Nat} {x : Int} (h : i < l.length) : (l.set i x).getD j 0 = if i = j then x else l.getD j 0 := by
  rw [List.getD_eq_getElem?_getD, List.getD_eq_getElem?_getD, List.getElem?_set]
  by_cases e : i = j
  · subst e
    simp [h]
  · simp [e]

theorem Js.start {n : Int} (h : 1 ≤ n) : Js n 0 n (((List.replicate (n + 1).toNat (0 : Int)).set 0 1).set n.toNat 2) := by
  have e0 : ∀ j : Nat, (List.replicate (n + 1).toNat (0 : Int)).getD j 0 = 0 := by
    intro j
    rw [List.getD_eq_getElem?_getD, List.getElem?_replicate]
    split <;> rfl
  refine ⟨by simp; omega, by omega, ?_, ?_, fun j h1 h2 => ?_⟩
  · rw [getD_set (by simp; omega), getD_set (by simp; omega), if_neg (by omega), if_pos (by omega)]
  · rw [getD_set (by simp; omega), if_pos rfl]
  · rw [getD_set (by simp; omega), getD_set (by simp; omega), if_neg (by omega), if_neg (by omega), e0]

def putS (l : List Int) (m : Int) (b : Bool) : List Int := if b = true then (l.set m.toNat 1).set m.toNat 2 else l.set m.toNat 1

theorem Js.step {n lo hi m : Int} {l : List Int} (h : Js n lo hi l) (h1 : lo < m) (h2 : m < hi) (b : Bool) : Js n (if b = true then lo else m) (if b = true then m else hi) (putS l m b) := by
  have hl := h.len
  have hb := h.b
  unfold putS
  cases b with
  | true =>
    simp only [if_true]
    refine ⟨by simpa using hl, by omega, ?_, ?_, fun j h3 h4 => ?_⟩
    · rw [getD_set (by simp; omega), getD_set (by omega), if_neg (by omega), if_neg (by omega), h.lo1]
    · rw [getD_set (by simp; omega), if_pos rfl]
    · rw [getD_set (by simp; omega), getD_set (by omega), if_neg (by omega), if_neg (by omega), h.mid j (by omega) (by omega)]
  | false =>
    simp only [Bool.false_eq_true, if_false]
    refine ⟨by simpa using hl, by omega, ?_, ?_, fun j h3 h4 => ?_⟩
    · rw [getD_set (by omega), if_pos rfl]
    · rw [getD_set (by omega), if_neg (by omega), h.hi2]
    · rw [getD_set (by omega), if_neg (by omega), h.mid j (by omega) (by omega)]

theorem tailF {R : Type} {n lo hi : Int} {l : List Int} (h : Js n lo hi l) (hn : n ≤ 300) (c : hi = lo + 1) (Q F : Option R) :
    bi true (bi (decide (lo ≥ 0)) (bi (decide (lo < n)) (bi (decide (0 ≤ lo ∧ lo < ((l.length : Nat) : Int))) (bi (l.getD lo.toNat 0 == 1)
      (bi (decide (0 ≤ IntKind.i64.wrap (lo + 1) ∧ IntKind.i64.wrap (lo + 1) < ((l.length : Nat) : Int))) (bi (l.getD (IntKind.i64.wrap (lo + 1)).toNat 0 == 2) Q F) none) F) none) F) F) F = Q := by
  subst c
  have hb := h.b
  have hl := h.len
  rw [br_tt, br_pos (by omega), br_pos (by omega), br_pos (by omega), br_eq h.lo1, wr (lo + 1) (by omega) (by omega), br_pos (by omega), br_eq h.hi2]

theorem stepF {R : Type} {n lo hi m : Int} {l : List Int} {v : List Bool} (h : Js n lo hi l) (h1 : lo < m) (h2 : m < hi) (F : Option R) (T : Bool → (Int → Option R) → Option R) (G : List Int → Option R)
    (hT : T (toldS v m) = fun K => K 0) :
    (bi (decide (m < 1)) F (bi (decide (m ≥ n)) F (bi (decide (0 ≤ m ∧ m < ((l.length : Nat) : Int))) (bi (l.getD m.toNat 0 != 0) F
      (l_tutorlaw12_told v m fun r55 => T r55 fun r56 => l_tutorlaw12_num r56 fun r60 => bi (r60 != 0) F
        (bi (decide (0 ≤ m ∧ m < ((l.length : Nat) : Int))) (l_tutorlaw12_told v m fun r61 => bi r61
          (bi (decide (0 ≤ m ∧ m < (((l.set m.toNat 1).length : Nat) : Int))) (G ((l.set m.toNat 1).set m.toNat 2)) none) (G (l.set m.toNat 1))) none))) none))) = G (putS l m (toldS v m)) := by
  have hb := h.b
  have hl := h.len
  rw [br_neg (by omega), br_neg (by omega), br_pos (by omega), br_ne' (h.mid m h1 h2), told_eq (by omega), hT]
  unfold l_tutorlaw12_num
  dsimp only
  rw [br_ne' rfl, br_pos (by omega), told_eq (by omega)]
  unfold putS
  cases toldS v m with
  | true => rw [br_tt, br_pos (by rw [List.length_set]; omega), if_pos rfl]
  | false => rw [br_ff, if_neg (by decide)]

theorem findsA {R : Type} (K0 : Bool → Option R) {n : Int} {v : List Bool} (hn : 1 ≤ n ∧ n ≤ 300) : ∀ (k : Nat) (i lo hi : Int) (l : List Int), 0 ≤ i → i + (hi - lo) ≤ n → Js n lo hi l → hi - lo ≤ k →
    (run_tutorlaw12_PointFinds K0 k).1 n v 1 i lo hi i l = K0 true
  | 0, i, lo, hi, l, h1, h2, h3, h4 => by have := h3.b; omega
  | k + 1, i, lo, hi, l, h1, h2, h3, h4 => by
    have ih := findsA K0 (v := v) hn k
    have hb := h3.b
    have hl := h3.len
    show s_tutorlaw12_PointFinds_10a (run_tutorlaw12_PointFinds K0 k).1 (run_tutorlaw12_PointFinds K0 k).2.1 (run_tutorlaw12_PointFinds K0 k).2.2 K0 n v 1 i lo hi i l = K0 true
    unfold s_tutorlaw12_PointFinds_10a
    rw [br_pos (by omega), ask1 (by omega)]
    by_cases c : hi = lo + 1
    · rw [if_pos c]
      try dsimp only
      rw [show (!false) = true from rfl, br_tt, found1 (by omega) c]
      try dsimp only
      rw [br_eq' (by decide), br_eq' (by decide), tailF h3 (by omega) c]
      unfold l_point_Search_Asked_linear
      try dsimp only
      rw [wr (n - 1) (by omega) (by omega), br_pos (by omega), live12]
    · rw [if_neg c]
      try dsimp only
      rw [show (!true) = false from rfl, br_ff, br_neg (by omega), br_neg (by omega), br_pos (by omega), br_ne' (h3.mid (lo + 1) (by omega) (by omega)), told_eq (by omega), tell1 (by omega) c]
      dsimp only [l_tutorlaw12_num]
      rw [br_ne' rfl, br_pos (by omega), told_eq (by omega), wr (i + 1) (by omega) (by omega)]
      have hj := h3.step (m := lo + 1) (by omega) (by omega) (toldS v (lo + 1))
      generalize toldS v (lo + 1) = b at hj
      unfold putS at hj
      cases b with
      | true =>
        rw [br_tt, br_pos (by rw [List.length_set]; omega)]
        simp only [if_true] at hj ⊢
        exact ih _ _ _ _ (by omega) (by omega) hj (by omega)
      | false =>
        rw [br_ff]
        simp only [Bool.false_eq_true, if_false] at hj ⊢
        exact ih _ _ _ _ (by omega) (by omega) hj (by omega)

theorem mid_dg {lo hi : Int} (h : 0 ≤ lo ∧ lo + 1 < hi) : dg (hi - (lo + (hi - lo) / 2) - 1).toNat + 1 ≤ dg (hi - lo - 1).toNat ∧ dg (lo + (hi - lo) / 2 - lo - 1).toNat + 1 ≤ dg (hi - lo - 1).toNat := by
  rw [dg_pos (n := (hi - lo - 1).toNat) (by omega)]
  have e : (hi - lo - 1).toNat / 2 = ((hi - lo - 1) / 2).toNat := by omega
  rw [e]
  exact ⟨Nat.succ_le_succ (dg_mono _ _ (by omega)), Nat.succ_le_succ (dg_mono _ _ (by omega))⟩

theorem findsB {R : Type} (K0 : Bool → Option R) {n : Int} {v : List Bool} (hn : 1 ≤ n ∧ n ≤ 300) : ∀ (k : Nat) (i lo hi : Int) (l : List Int), 0 ≤ i → i + (hi - lo) ≤ n → Js n lo hi l → hi - lo ≤ k → i + (dg (hi - lo - 1).toNat : Int) ≤ (dg (n - 1).toNat : Int) →
    (run_tutorlaw12_PointFinds K0 k).2.1 n v 2 i lo hi i l = K0 true
  | 0, i, lo, hi, l, h1, h2, h3, h4, h5 => by have := h3.b; omega
  | k + 1, i, lo, hi, l, h1, h2, h3, h4, h5 => by
    have ih := findsB K0 (v := v) hn k
    have hb := h3.b
    have hl := h3.len
    show s_tutorlaw12_PointFinds_10b (run_tutorlaw12_PointFinds K0 k).1 (run_tutorlaw12_PointFinds K0 k).2.1 (run_tutorlaw12_PointFinds K0 k).2.2 K0 n v 2 i lo hi i l = K0 true
    unfold s_tutorlaw12_PointFinds_10b
    rw [br_pos (by omega), ask2 (by omega)]
    by_cases c : hi = lo + 1
    · rw [if_pos c]
      try dsimp only
      rw [show (!false) = true from rfl, br_tt, found2 (by omega) c]
      try dsimp only
      rw [br_eq rfl, wr (n - 1) (by omega) (by omega)]
      unfold l_tutorref12_Digits
      rw [if_pos (by omega)]
      try dsimp only
      rw [br_eq' (by decide), tailF h3 (by omega) c]
      unfold l_point_Search_Asked_binary
      try dsimp only
      rw [br_pos (by omega), live12]
    · rw [if_neg c]
      have hm := midS_eq (lo := lo) (hi := hi) (by omega)
      have hd := mid_dg (lo := lo) (hi := hi) (by omega)
      rw [← hm] at hd
      have hx : lo < midS lo hi ∧ midS lo hi < hi := by rw [hm]; omega
      try dsimp only
      rw [show (!true) = false from rfl, br_ff, br_neg (by omega), br_neg (by omega), br_pos (by omega), br_ne' (h3.mid (midS lo hi) (by omega) (by omega)), told_eq (by omega), tell2 (by omega) c]
      generalize midS lo hi = m at hd hx
      dsimp only [l_tutorlaw12_num]
      rw [br_ne' rfl, br_pos (by omega), told_eq (by omega), wr (i + 1) (by omega) (by omega)]
      have hj := h3.step (m := m) (by omega) (by omega) (toldS v m)
      generalize toldS v m = b at hj
      unfold putS at hj
      cases b with
      | true =>
        rw [br_tt, br_pos (by rw [List.length_set]; omega)]
        simp only [if_true] at hj ⊢
        exact ih _ _ _ _ (by omega) (by omega) hj (by omega) (by omega)
      | false =>
        rw [br_ff]
        simp only [Bool.false_eq_true, if_false] at hj ⊢
        exact ih _ _ _ _ (by omega) (by omega) hj (by omega) (by omega)

structure Ex (n i lo hi st : Int) (no : Bool) : Prop where
  yes : no = true → i + (dg (hi - lo - 1).toNat : Int) ≤ 2 * (dg n.toNat : Int) + 1
  no : no = false → (hi = lo + 1 ∧ i ≤ 2 * (dg n.toNat : Int) + 1) ∨ (lo = 0 ∧ ∃ e : Nat, i = (e : Int) ∧ st = ((2 ^ e : Nat) : Int) ∧ hi + st = n + 1)

theorem Ex.small {n i lo hi st : Int} {no : Bool} (h : Ex n i lo hi st no) (hb : 0 ≤ lo ∧ lo < hi ∧ hi ≤ n) (hn : 1 ≤ n ∧ n ≤ 300) : hi ≠ lo + 1 → no = false → 1 ≤ st ∧ st ≤ 8192 := by
  intro c f
  rcases h.no f with g | ⟨_, e, _, g, g2⟩
  · omega
  · have : 0 < 2 ^ e := Nat.pow_pos (by decide)
    omega

theorem Ex.fin {n i lo hi st : Int} {no : Bool} (h : Ex n i lo hi st no) (hb : 0 ≤ lo ∧ lo < hi ∧ hi ≤ n) (hn : 1 ≤ n ∧ n ≤ 300) (c : hi = lo + 1) : i ≤ 2 * (dg n.toNat : Int) + 1 := by
  cases no with
  | true =>
    have := h.yes rfl
    omega
  | false =>
    rcases h.no rfl with g | ⟨h0, e, he, g, g2⟩
    · exact g.2
    · have := dg_ge e n.toNat (by omega)
      omega

theorem Ex.step {n i lo hi st : Int} {no : Bool} (h : Ex n i lo hi st no) (hb : 0 ≤ lo ∧ lo < hi ∧ hi ≤ n) (hn : 1 ≤ n ∧ n ≤ 300) (c : hi ≠ lo + 1) (b : Bool) :
    (lo < nextS3 lo hi st no ∧ nextS3 lo hi st no < hi) ∧
    Ex n (i + 1) (if b = true then lo else nextS3 lo hi st no) (if b = true then nextS3 lo hi st no else hi) (IntKind.i64.wrap (st * 2)) (no || !b) := by
  have hs := h.small hb hn c
  cases no with
  | true =>
    have hm := midS_eq (lo := lo) (hi := hi) (by omega)
    have hd := mid_dg (lo := lo) (hi := hi) (by omega)
    have hy := h.yes rfl
    have e : nextS3 lo hi st true = lo + (hi - lo) / 2 := by unfold nextS3; rw [if_pos rfl, hm]
    rw [e]
    refine ⟨by omega, ⟨fun _ => ?_, fun f => by simp at f⟩⟩
    cases b with
    | true =>
      simp only [if_true]
      omega
    | false =>
      simp only [Bool.false_eq_true, if_false]
      omega
  | false =>
    have hs := hs rfl
    rcases h.no rfl with g | ⟨h0, e, he, g, g2⟩
    · exact absurd g.1 c
    · have hg := dg_ge e n.toNat (by omega)
      have hx : nextS3 lo hi st false = if lo + 1 > hi - st then lo + 1 else hi - st := by unfold nextS3; rw [if_neg (by decide)]
      have hx1 : nextS3 lo hi st false = lo + 1 ∨ nextS3 lo hi st false = hi - st := by rw [hx]; split <;> simp
      have hx2 : lo + 1 ≤ nextS3 lo hi st false ∧ hi - st ≤ nextS3 lo hi st false ∧ nextS3 lo hi st false < hi := by rw [hx]; split <;> omega
      generalize nextS3 lo hi st false = m at hx1 hx2
      refine ⟨by omega, ?_⟩
      rw [wr (st * 2) (by omega) (by omega)]
      cases b with
      | true =>
        simp only [if_true]
        refine ⟨fun f => by simp at f, fun _ => ?_⟩
        rcases hx1 with q | q
        · exact .inl ⟨q, by omega⟩
        · refine .inr ⟨h0, e + 1, by omega, ?_, by omega⟩
          rw [Nat.pow_succ]
          omega
      | false =>
        simp only [Bool.false_eq_true, if_false]
        refine ⟨fun _ => ?_, fun f => by simp at f⟩
        have := dg_le e (hi - m - 1).toNat (by omega)
        omega

theorem findsC {R : Type} (K0 : Bool → Option R) {n : Int} {v : List Bool} (hn : 1 ≤ n ∧ n ≤ 300) : ∀ (k : Nat) (i lo hi st : Int) (no : Bool) (l : List Int), 0 ≤ i → i + (hi - lo) ≤ n → Js n lo hi l → hi - lo ≤ k → Ex n i lo hi st no →
    (run_tutorlaw12_PointFinds K0 k).2.2 n v 3 i lo hi i st no l = K0 true
  | 0, i, lo, hi, st, no, l, h1, h2, h3, h4, h5 => by have := h3.b; omega
  | k + 1, i, lo, hi, st, no, l, h1, h2, h3, h4, h5 => by
    have ih := findsC K0 (v := v) hn k
    have hb := h3.b
    have hl := h3.len
    have hs := h5.small hb hn
    show s_tutorlaw12_PointFinds_10c (run_tutorlaw12_PointFinds K0 k).1 (run_tutorlaw12_PointFinds K0 k).2.1 (run_tutorlaw12_PointFinds K0 k).2.2 K0 n v 3 i lo hi i st no l = K0 true
    unfold s_tutorlaw12_PointFinds_10c
    rw [br_pos (by omega), ask3 (by omega) hs]
    by_cases c : hi = lo + 1
    · rw [if_pos c]
      try dsimp only
      rw [show (!false) = true from rfl, br_tt, found3 (by omega) c]
      try dsimp only
      have hf := h5.fin hb hn c
      have hg := dg_le 9 n.toNat (by omega)
      rw [br_eq' (by decide), br_eq rfl]
      unfold l_tutorref12_Digits
      rw [if_pos (by omega)]
      try dsimp only
      rw [tailF h3 (by omega) c]
      unfold l_point_Search_Asked_exponential
      try dsimp only
      rw [wr (2 * _) (by omega) (by omega), wr _ (by omega) (by omega), br_pos (by omega), live12]
    · rw [if_neg c]
      try dsimp only
      have hx := (h5.step hb hn c true).1
      have hq := fun b => (h5.step hb hn c b).2
      rw [show (!true) = false from rfl, br_ff, br_neg (by omega), br_neg (by omega), br_pos (by omega), br_ne' (h3.mid (nextS3 lo hi st no) (by omega) (by omega)), told_eq (by omega), tell3 (by omega) hs c]
      generalize nextS3 lo hi st no = m at hx hq
      dsimp only [l_tutorlaw12_num]
      rw [br_ne' rfl, br_pos (by omega), told_eq (by omega), wr (i + 1) (by omega) (by omega)]
      have hj := h3.step (m := m) (by omega) (by omega) (toldS v m)
      have hq := hq (toldS v m)
      generalize toldS v m = b at hj hq
      unfold putS at hj
      cases b with
      | true =>
        rw [br_tt, br_pos (by rw [List.length_set]; omega)]
        simp only [if_true] at hj hq ⊢
        exact ih _ _ _ _ _ _ (by omega) (by omega) hj (by omega) hq
      | false =>
        rw [br_ff]
        simp only [Bool.false_eq_true, if_false] at hj hq ⊢
        exact ih _ _ _ _ _ _ (by omega) (by omega) hj (by omega) hq

theorem ok_tutorlaw12_PointFinds {R : Type} (how : Int) (n : Int) (v : List Bool) (K0 : Bool → Option R) {r : R} (h : l_tutorlaw12_PointFinds how n v K0 = some r) : ∃ fuel, e_tutorlaw12_PointFinds (run_tutorlaw12_PointFinds K0 fuel).1 (run_tutorlaw12_PointFinds K0 fuel).2.1 (run_tutorlaw12_PointFinds K0 fuel).2.2 K0 how n v = some r := by
  unfold l_tutorlaw12_PointFinds at h
  split at h
  · rename_i hw
    obtain ⟨⟨n1, n2⟩, h1, h2⟩ := hw
    refine ⟨n.toNat, ?_⟩
    rw [← h]
    unfold e_tutorlaw12_PointFinds
    rw [live12]
    by_cases c1 : n < 1
    · rw [br_pos c1]
    by_cases c2 : n > 300
    · rw [br_neg c1, br_pos c2]
    have hh := howF ⟨h1, h2⟩
    have hn : 1 ≤ n ∧ n ≤ 300 := by omega
    have hJ := Js.start hn.1
    have hk : n - 0 ≤ (n.toNat : Int) := by omega
    rw [br_neg c1, br_neg c2, new_eq hh (by omega), wr (n + 1) (by omega) (by omega)]
    generalize IntKind.i64.wrap (1 + IntKind.i64.wrap (how.tmod 3)) = hw at hh
    have hl : (((List.replicate (n + 1).toNat (0 : Int)).length : Nat) : Int) = n + 1 := by simp; omega
    have hl2 : ((((List.replicate (n + 1).toNat (0 : Int)).set 0 1).length : Nat) : Int) = n + 1 := by rw [List.length_set]; exact hl
    rw [hl, hl2]
    dsimp only [l_tutorlaw12_num]
    rcases hh with rfl | rfl | rfl
    · rw [if_pos rfl, br_ne' rfl, br_pos (by omega), br_pos (by omega), br_pos (by omega)]
      exact findsA K0 hn _ _ _ _ _ (by omega) (by omega) hJ hk
    · rw [if_neg (by decide), if_pos rfl, br_ne' rfl, br_pos (by omega), br_pos (by omega), br_pos (by omega)]
      exact findsB K0 hn _ _ _ _ _ (by omega) (by omega) hJ hk (by simp)
    · rw [if_neg (by decide), if_neg (by decide), br_ne' rfl, br_pos (by omega), br_pos (by omega), br_pos (by omega)]
      exact findsC K0 hn _ _ _ _ _ _ _ (by omega) (by omega) hJ hk (Ex.mk (fun f => (Bool.noConfusion f : _)) (fun _ => Or.inr ⟨rfl, 0, rfl, rfl, by omega⟩))
  · cases h

theorem law_tutorlaw12_PointFinds {R : Type} (how n : Int) (v : List Bool) (K0 : Bool → Option R) {p : Prop} (hh : (Lit.int .u8 how).wf = true) (hn : inI n) (hv : p) : l_tutorlaw12_PointFinds how n v K0 = K0 true := by
  have h : 0 ≤ how ∧ how ≤ 255 := by
    simp [Lit.wf, IntKind.min, IntKind.max, IntKind.bits, IntKind.signed] at hh
    omega
  unfold l_tutorlaw12_PointFinds
  rw [if_pos ⟨hn, h⟩]

end Go.Ev
