/- Functions of the program, as trees of tests over numbers and lists; no program in sight. -/
import Derived.Test.YtgbpgjfjohoabaaEvMach
namespace Go.Ev
set_option linter.unusedVariables false
set_option linter.unusedSimpArgs false
set_option maxRecDepth 100000
set_option maxHeartbeats 4000000

/-- (*tutor/point.Search).Ask -/
def l_point_Search_Ask {R : Type}  (K0 : Int → Bool → Option R) : Option R :=
  K0 0 false

/-- (*tutor/point.Search).Tell -/
def l_point_Search_Tell {R : Type} (v : Bool) (K0 : Int → Option R) : Option R :=
  K0 5

/-- (*tutor/point.Search).Found -/
def l_point_Search_Found {R : Type}  (K0 : Int → Bool → Option R) : Option R :=
  K0 0 false

/-- (*tutor/point.Search).Asked -/
def l_point_Search_Asked {R : Type}  (K0 : Int → Option R) : Option R :=
  K0 0

/-- tutor/tutorlaw12.num -/
def l_tutorlaw12_num {R : Type} (e : Int) (K0 : Int → Option R) : Option R :=
  K0 e

/-- tutor/point.New -/
def l_point_New {R : Type} (how : Int) (n : Int) (K0 : Int → Option R) (K1 : Int → Int → Int → Int → Option R) (K2 : Int → Int → Int → Int → Option R) (K3 : Int → Int → Int → Int → Int → Bool → Option R) : Option R :=
  bi (how == 1)
   (bi (decide (n < 1))
    (K0 1)
    (bi (decide (n > 4096))
     (K0 3)
     (K1 0 0 n 0)))
   (bi (how == 2)
    (bi (decide (n < 1))
     (K0 1)
     (bi (decide (n > 4096))
      (K0 3)
      (K2 0 0 n 0)))
    (bi (how == 3)
     (bi (decide (n < 1))
      (K0 1)
      (bi (decide (n > 4096))
       (K0 3)
       (K3 0 0 n 0 1 false)))
     (K0 1)))

/-- (*tutor/point.Search).ended -/
def l_point_Search_ended {R : Type} (o0 : Int) (o0_1 : Int) (o0_2 : Int) (K0 : Bool → Int → Int → Int → Option R) : Option R :=
  K0 (o0_1 == (IntKind.i64.wrap (o0 + 1))) o0 o0_1 o0_2

/-- (tutor/point.linear).next -/
def l_point_linear_next {R : Type} (s : Int) (s_1 : Int) (K0 : Int → Option R) : Option R :=
  K0 (IntKind.i64.wrap (s + 1))

/-- (*tutor/point.Search).Ask -/
def l_point_Search_Ask_v1 {R : Type} (o0 : Int) (o0_1 : Int) (o0_2 : Int) (K0 : Int → Bool → Int → Int → Int → Option R) : Option R :=
  l_point_Search_ended o0 o0_1 o0_2
   (fun r1 r2 r3 r4 =>
    bi r1
     (K0 0 false r2 r3 r4)
     (l_point_linear_next r2 r3
      (fun r5 =>
       K0 r5 true r2 r3 r4)))

/-- (*tutor/point.Search).Tell -/
def l_point_Search_Tell_v1 {R : Type} (v : Bool) (o0 : Int) (o0_1 : Int) (o0_2 : Int) (K0 : Int → Int → Int → Int → Option R) : Option R :=
  l_point_Search_Ask_v1 o0 o0_1 o0_2
   (fun r1 r2 r3 r4 r5 =>
    bi (!r2)
     (K0 7 r3 r4 r5)
     (bi v
      (K0 0 r3 r1 (IntKind.i64.wrap (r5 + 1)))
      (K0 0 r1 r4 (IntKind.i64.wrap (r5 + 1)))))

/-- (*tutor/point.Search).Found -/
def l_point_Search_Found_v1 {R : Type} (o0 : Int) (o0_1 : Int) (o0_2 : Int) (K0 : Int → Bool → Int → Int → Int → Option R) : Option R :=
  l_point_Search_ended o0 o0_1 o0_2
   (fun r1 r2 r3 r4 =>
    bi (!r1)
     (K0 0 false r2 r3 r4)
     (K0 r2 true r2 r3 r4))

/-- (*tutor/point.Search).Asked -/
def l_point_Search_Asked_v1 {R : Type} (o0 : Int) (o0_1 : Int) (o0_2 : Int) (K0 : Int → Int → Int → Int → Option R) : Option R :=
  K0 o0_2 o0 o0_1 o0_2

/-- (*tutor/point.Search).ended -/
def l_point_Search_ended_v1 {R : Type} (o0 : Int) (o0_1 : Int) (o0_2 : Int) (K0 : Bool → Int → Int → Int → Option R) : Option R :=
  K0 (o0_1 == (IntKind.i64.wrap (o0 + 1))) o0 o0_1 o0_2

/-- (tutor/point.binary).next -/
def l_point_binary_next {R : Type} (s : Int) (s_1 : Int) (K0 : Int → Option R) : Option R :=
  K0 (IntKind.i64.wrap (s + (IntKind.i64.wrap ((IntKind.i64.wrap (s_1 - s)).tdiv 2))))

/-- (*tutor/point.Search).Ask -/
def l_point_Search_Ask_v2 {R : Type} (o0 : Int) (o0_1 : Int) (o0_2 : Int) (K0 : Int → Bool → Int → Int → Int → Option R) : Option R :=
  l_point_Search_ended_v1 o0 o0_1 o0_2
   (fun r1 r2 r3 r4 =>
    bi r1
     (K0 0 false r2 r3 r4)
     (l_point_binary_next r2 r3
      (fun r5 =>
       K0 r5 true r2 r3 r4)))

/-- (tutor/point.binary).told -/
def l_point_binary_told {R : Type} (x1 : Bool) (K0 : Option R) : Option R :=
  K0

/-- (*tutor/point.Search).Tell -/
def l_point_Search_Tell_v2 {R : Type} (v : Bool) (o0 : Int) (o0_1 : Int) (o0_2 : Int) (K0 : Int → Int → Int → Int → Option R) : Option R :=
  l_point_Search_Ask_v2 o0 o0_1 o0_2
   (fun r1 r2 r3 r4 r5 =>
    bi (!r2)
     (K0 7 r3 r4 r5)
     (bi v
      (l_point_binary_told v
       (K0 0 r3 r1 (IntKind.i64.wrap (r5 + 1))))
      (l_point_binary_told v
       (K0 0 r1 r4 (IntKind.i64.wrap (r5 + 1))))))

/-- (*tutor/point.Search).Found -/
def l_point_Search_Found_v2 {R : Type} (o0 : Int) (o0_1 : Int) (o0_2 : Int) (K0 : Int → Bool → Int → Int → Int → Option R) : Option R :=
  l_point_Search_ended_v1 o0 o0_1 o0_2
   (fun r1 r2 r3 r4 =>
    bi (!r1)
     (K0 0 false r2 r3 r4)
     (K0 r2 true r2 r3 r4))

/-- (*tutor/point.Search).Asked -/
def l_point_Search_Asked_v2 {R : Type} (o0 : Int) (o0_1 : Int) (o0_2 : Int) (K0 : Int → Int → Int → Int → Option R) : Option R :=
  K0 o0_2 o0 o0_1 o0_2

/-- (*tutor/point.Search).ended -/
def l_point_Search_ended_v2 {R : Type} (o0 : Int) (o0_1 : Int) (o0_2 : Int) (o1 : Int) (o1_1 : Bool) (K0 : Bool → Int → Int → Int → Int → Bool → Option R) : Option R :=
  K0 (o0_1 == (IntKind.i64.wrap (o0 + 1))) o0 o0_1 o0_2 o1 o1_1

/-- (*tutor/point.exponential).next -/
def l_point_exponential_next {R : Type} (s : Int) (s_1 : Int) (o0 : Int) (o0_1 : Bool) (K0 : Int → Int → Bool → Option R) : Option R :=
  bi o0_1
   (l_point_binary_next s s_1
    (fun r1 =>
     K0 r1 o0 o0_1))
   (K0 (if (IntKind.i64.wrap (s + 1)) > (IntKind.i64.wrap (s_1 - o0)) then (IntKind.i64.wrap (s + 1)) else (IntKind.i64.wrap (s_1 - o0))) o0 o0_1)

/-- (*tutor/point.Search).Ask -/
def l_point_Search_Ask_v3 {R : Type} (o0 : Int) (o0_1 : Int) (o0_2 : Int) (o1 : Int) (o1_1 : Bool) (K0 : Int → Bool → Int → Int → Int → Int → Bool → Option R) : Option R :=
  l_point_Search_ended_v2 o0 o0_1 o0_2 o1 o1_1
   (fun r1 r2 r3 r4 r5 r6 =>
    bi r1
     (K0 0 false r2 r3 r4 r5 r6)
     (l_point_exponential_next r2 r3 r5 r6
      (fun r7 r8 r9 =>
       K0 r7 true r2 r3 r4 r8 r9)))

/-- (*tutor/point.exponential).told -/
def l_point_exponential_told {R : Type} (v : Bool) (o0 : Int) (o0_1 : Bool) (K0 : Int → Bool → Option R) : Option R :=
  bi o0_1
   (K0 (IntKind.i64.wrap (o0 * 2)) true)
   (K0 (IntKind.i64.wrap (o0 * 2)) (!v))

/-- (*tutor/point.Search).Tell -/
def l_point_Search_Tell_v3 {R : Type} (v : Bool) (o0 : Int) (o0_1 : Int) (o0_2 : Int) (o1 : Int) (o1_1 : Bool) (K0 : Int → Int → Int → Int → Int → Bool → Option R) : Option R :=
  l_point_Search_Ask_v3 o0 o0_1 o0_2 o1 o1_1
   (fun r1 r2 r3 r4 r5 r6 r7 =>
    bi (!r2)
     (K0 7 r3 r4 r5 r6 r7)
     (bi v
      (l_point_exponential_told v r6 r7
       (fun r8 r9 =>
        K0 0 r3 r1 (IntKind.i64.wrap (r5 + 1)) r8 r9))
      (l_point_exponential_told v r6 r7
       (fun r10 r11 =>
        K0 0 r1 r4 (IntKind.i64.wrap (r5 + 1)) r10 r11))))

/-- (*tutor/point.Search).Found -/
def l_point_Search_Found_v3 {R : Type} (o0 : Int) (o0_1 : Int) (o0_2 : Int) (o1 : Int) (o1_1 : Bool) (K0 : Int → Bool → Int → Int → Int → Int → Bool → Option R) : Option R :=
  l_point_Search_ended_v2 o0 o0_1 o0_2 o1 o1_1
   (fun r1 r2 r3 r4 r5 r6 =>
    bi (!r1)
     (K0 0 false r2 r3 r4 r5 r6)
     (K0 r2 true r2 r3 r4 r5 r6))

/-- (*tutor/point.Search).Asked -/
def l_point_Search_Asked_v3 {R : Type} (o0 : Int) (o0_1 : Int) (o0_2 : Int) (o1 : Int) (o1_1 : Bool) (K0 : Int → Int → Int → Int → Int → Bool → Option R) : Option R :=
  K0 o0_2 o0 o0_1 o0_2 o1 o1_1

theorem ask1 {R : Type} {lo hi as : Int} (h : 0 ≤ lo ∧ lo ≤ 4096) (K : Int → Bool → Int → Int → Int → Option R) :
    l_point_Search_Ask_v1 lo hi as K = if hi = lo + 1 then K 0 false lo hi as else K (lo + 1) true lo hi as := by
  unfold l_point_Search_Ask_v1 l_point_Search_ended l_point_linear_next
  try dsimp only
  rw [wr _ (by omega) (by omega)]
  by_cases c : hi = lo + 1
  · rw [br_eq c, if_pos c]
  · rw [br_eq' c, if_neg c]
theorem tell1 {R : Type} {v : Bool} {lo hi as : Int} (h : 0 ≤ lo ∧ lo ≤ 4096) (c : hi ≠ lo + 1) (K : Int → Int → Int → Int → Option R) :
    l_point_Search_Tell_v1 v lo hi as K = K 0 (if v = true then lo else lo + 1) (if v = true then lo + 1 else hi) (IntKind.i64.wrap (as + 1)) := by
  unfold l_point_Search_Tell_v1
  rw [ask1 h, if_neg c]
  cases v <;> rfl
theorem found1 {R : Type} {lo hi as : Int} (h : 0 ≤ lo ∧ lo ≤ 4096) (c : hi = lo + 1) (K : Int → Bool → Int → Int → Int → Option R) :
    l_point_Search_Found_v1 lo hi as K = K lo true lo hi as := by
  unfold l_point_Search_Found_v1 l_point_Search_ended
  rw [wr _ (by omega) (by omega)]
  have e : (hi == lo + 1) = true := by simp [c]
  rw [e]
  rfl
def midS (lo hi : Int) : Int := lo + (hi - lo).tdiv 2
theorem midS_eq {lo hi : Int} (h : 0 ≤ lo ∧ lo < hi) : midS lo hi = lo + (hi - lo) / 2 := by
  unfold midS
  rw [Int.tdiv_eq_ediv_of_nonneg (by omega)]
theorem bin_next {R : Type} {lo hi : Int} (h : 0 ≤ lo ∧ lo < hi ∧ hi ≤ 4096) (K : Int → Option R) : l_point_binary_next lo hi K = K (midS lo hi) := by
  unfold l_point_binary_next
  try dsimp only
  have e := midS_eq (lo := lo) (hi := hi) (by omega)
  have e2 : (hi - lo).tdiv 2 = (hi - lo) / 2 := Int.tdiv_eq_ediv_of_nonneg (by omega)
  rw [wr (hi - lo) (by omega) (by omega), e2, wr ((hi - lo) / 2) (by omega) (by omega), wr _ (by omega) (by omega), e]
theorem ask2 {R : Type} {lo hi as : Int} (h : 0 ≤ lo ∧ lo < hi ∧ hi ≤ 4096) (K : Int → Bool → Int → Int → Int → Option R) :
    l_point_Search_Ask_v2 lo hi as K = if hi = lo + 1 then K 0 false lo hi as else K (midS lo hi) true lo hi as := by
  unfold l_point_Search_Ask_v2 l_point_Search_ended_v1
  try dsimp only
  rw [wr _ (by omega) (by omega), bin_next h]
  by_cases c : hi = lo + 1
  · rw [br_eq c, if_pos c]
  · rw [br_eq' c, if_neg c]
theorem tell2 {R : Type} {v : Bool} {lo hi as : Int} (h : 0 ≤ lo ∧ lo < hi ∧ hi ≤ 4096) (c : hi ≠ lo + 1) (K : Int → Int → Int → Int → Option R) :
    l_point_Search_Tell_v2 v lo hi as K = K 0 (if v = true then lo else midS lo hi) (if v = true then midS lo hi else hi) (IntKind.i64.wrap (as + 1)) := by
  unfold l_point_Search_Tell_v2
  rw [ask2 h, if_neg c]
  cases v <;> rfl
theorem found2 {R : Type} {lo hi as : Int} (h : 0 ≤ lo ∧ lo ≤ 4096) (c : hi = lo + 1) (K : Int → Bool → Int → Int → Int → Option R) :
    l_point_Search_Found_v2 lo hi as K = K lo true lo hi as := by
  unfold l_point_Search_Found_v2 l_point_Search_ended_v1
  rw [wr _ (by omega) (by omega)]
  have e : (hi == lo + 1) = true := by simp [c]
  rw [e]
  rfl
def nextS3 (lo hi st : Int) (no : Bool) : Int := if no = true then midS lo hi else if lo + 1 > hi - st then lo + 1 else hi - st
theorem exp_next {R : Type} {lo hi st : Int} {no : Bool} (h : 0 ≤ lo ∧ lo < hi ∧ hi ≤ 4096) (hs : no = false → 1 ≤ st ∧ st ≤ 8192) (K : Int → Int → Bool → Option R) :
    l_point_exponential_next lo hi st no K = K (nextS3 lo hi st no) st no := by
  unfold l_point_exponential_next nextS3
  try dsimp only
  rw [bin_next h]
  cases no with
  | true => rfl
  | false =>
    have hs := hs rfl
    rw [wr (lo + 1) (by omega) (by omega), wr (hi - st) (by omega) (by omega)]
    rfl
theorem ask3 {R : Type} {lo hi as st : Int} {no : Bool} (h : 0 ≤ lo ∧ lo < hi ∧ hi ≤ 4096) (hs : hi ≠ lo + 1 → no = false → 1 ≤ st ∧ st ≤ 8192) (K : Int → Bool → Int → Int → Int → Int → Bool → Option R) :
    l_point_Search_Ask_v3 lo hi as st no K = if hi = lo + 1 then K 0 false lo hi as st no else K (nextS3 lo hi st no) true lo hi as st no := by
  unfold l_point_Search_Ask_v3 l_point_Search_ended_v2
  try dsimp only
  rw [wr _ (by omega) (by omega)]
  by_cases c : hi = lo + 1
  · rw [br_eq c, if_pos c]
  · rw [br_eq' c, if_neg c, exp_next h (hs c)]
theorem tell3 {R : Type} {v : Bool} {lo hi as st : Int} {no : Bool} (h : 0 ≤ lo ∧ lo < hi ∧ hi ≤ 4096) (hs : hi ≠ lo + 1 → no = false → 1 ≤ st ∧ st ≤ 8192) (c : hi ≠ lo + 1) (K : Int → Int → Int → Int → Int → Bool → Option R) :
    l_point_Search_Tell_v3 v lo hi as st no K = K 0 (if v = true then lo else nextS3 lo hi st no) (if v = true then nextS3 lo hi st no else hi) (IntKind.i64.wrap (as + 1)) (IntKind.i64.wrap (st * 2)) (no || !v) := by
  unfold l_point_Search_Tell_v3
  rw [ask3 h hs, if_neg c]
  cases v <;> cases no <;> rfl
theorem found3 {R : Type} {lo hi as st : Int} {no : Bool} (h : 0 ≤ lo ∧ lo ≤ 4096) (c : hi = lo + 1) (K : Int → Bool → Int → Int → Int → Int → Bool → Option R) :
    l_point_Search_Found_v3 lo hi as st no K = K lo true lo hi as st no := by
  unfold l_point_Search_Found_v3 l_point_Search_ended_v2
  rw [wr _ (by omega) (by omega)]
  have e : (hi == lo + 1) = true := by simp [c]
  rw [e]
  rfl

/-- tutor/tutorlaw12.live -/
def l_tutorlaw12_live {R : Type}  (K0 : Bool → Option R) : Option R :=
  l_point_New 2 8
   (fun r1 =>
    l_tutorlaw12_num r1
     (fun r2 =>
      bi (r2 != 0)
       (K0 false)
       (K0 false)))
   (fun r3 r4 r5 r6 =>
    l_tutorlaw12_num r3
     (fun r7 =>
      bi (r7 != 0)
       (K0 false)
       (l_point_Search_Ask_v1 r4 r5 r6
        (fun r8 r9 r10 r11 r12 =>
         l_point_Search_Tell_v1 true r10 r11 r12
          (fun r13 r14 r15 r16 =>
           l_point_Search_Ask_v1 r14 r15 r16
            (fun r17 r18 r19 r20 r21 =>
             l_point_Search_Tell_v1 false r19 r20 r21
              (fun r22 r23 r24 r25 =>
               l_point_Search_Ask_v1 r23 r24 r25
                (fun r26 r27 r28 r29 r30 =>
                 l_point_Search_Tell_v1 false r28 r29 r30
                  (fun r31 r32 r33 r34 =>
                   l_point_Search_Found_v1 r32 r33 r34
                    (fun r35 r36 r37 r38 r39 =>
                     bi (r8 == 4)
                      (bi (r17 == 2)
                       (bi (r26 == 3)
                        (bi (r35 == 3)
                         (bi r36
                          (l_point_Search_Asked_v1 r37 r38 r39
                           (fun r40 r41 r42 r43 =>
                            K0 (r40 == 3)))
                          (K0 false))
                         (K0 false))
                        (K0 false))
                       (K0 false))
                      (K0 false)))))))))))
   (fun r44 r45 r46 r47 =>
    l_tutorlaw12_num r44
     (fun r48 =>
      bi (r48 != 0)
       (K0 false)
       (l_point_Search_Ask_v2 r45 r46 r47
        (fun r49 r50 r51 r52 r53 =>
         l_point_Search_Tell_v2 true r51 r52 r53
          (fun r54 r55 r56 r57 =>
           l_point_Search_Ask_v2 r55 r56 r57
            (fun r58 r59 r60 r61 r62 =>
             l_point_Search_Tell_v2 false r60 r61 r62
              (fun r63 r64 r65 r66 =>
               l_point_Search_Ask_v2 r64 r65 r66
                (fun r67 r68 r69 r70 r71 =>
                 l_point_Search_Tell_v2 false r69 r70 r71
                  (fun r72 r73 r74 r75 =>
                   l_point_Search_Found_v2 r73 r74 r75
                    (fun r76 r77 r78 r79 r80 =>
                     bi (r49 == 4)
                      (bi (r58 == 2)
                       (bi (r67 == 3)
                        (bi (r76 == 3)
                         (bi r77
                          (l_point_Search_Asked_v2 r78 r79 r80
                           (fun r81 r82 r83 r84 =>
                            K0 (r81 == 3)))
                          (K0 false))
                         (K0 false))
                        (K0 false))
                       (K0 false))
                      (K0 false)))))))))))
   (fun r85 r86 r87 r88 r89 r90 =>
    l_tutorlaw12_num r85
     (fun r91 =>
      bi (r91 != 0)
       (K0 false)
       (l_point_Search_Ask_v3 r86 r87 r88 r89 r90
        (fun r92 r93 r94 r95 r96 r97 r98 =>
         l_point_Search_Tell_v3 true r94 r95 r96 r97 r98
          (fun r99 r100 r101 r102 r103 r104 =>
           l_point_Search_Ask_v3 r100 r101 r102 r103 r104
            (fun r105 r106 r107 r108 r109 r110 r111 =>
             l_point_Search_Tell_v3 false r107 r108 r109 r110 r111
              (fun r112 r113 r114 r115 r116 r117 =>
               l_point_Search_Ask_v3 r113 r114 r115 r116 r117
                (fun r118 r119 r120 r121 r122 r123 r124 =>
                 l_point_Search_Tell_v3 false r120 r121 r122 r123 r124
                  (fun r125 r126 r127 r128 r129 r130 =>
                   l_point_Search_Found_v3 r126 r127 r128 r129 r130
                    (fun r131 r132 r133 r134 r135 r136 r137 =>
                     bi (r92 == 4)
                      (bi (r105 == 2)
                       (bi (r118 == 3)
                        (bi (r131 == 3)
                         (bi r132
                          (l_point_Search_Asked_v3 r133 r134 r135 r136 r137
                           (fun r138 r139 r140 r141 r142 r143 =>
                            K0 (r138 == 3)))
                          (K0 false))
                         (K0 false))
                        (K0 false))
                       (K0 false))
                      (K0 false)))))))))))

theorem live12 {R : Type} (K0 : Bool → Option R) : l_tutorlaw12_live K0 = K0 true := by kernel_rfl

/-- tutor/tutorlaw12.PointNils -/
def l_tutorlaw12_PointNils {R : Type} (v : Bool) (K0 : Bool → Option R) : Option R :=
  l_point_Search_Ask
   (fun r1 r2 =>
    l_point_Search_Tell v
     (fun r3 =>
      l_point_Search_Found
       (fun r4 r5 =>
        l_point_Search_Asked
         (fun r6 =>
          bi ((IntKind.i64.wrap ((IntKind.i64.wrap (r1 + r4)) + r6)) == 0)
           (bi (!r2)
            (bi (!r5)
             (l_tutorlaw12_num r3
              (fun r7 =>
               bi (r7 == 5)
                (l_tutorlaw12_live
                 (fun r8 =>
                  K0 r8))
                (K0 false)))
             (K0 false))
            (K0 false))
           (K0 false)))))

theorem law_tutorlaw12_PointNils {R : Type} (v : Bool) (K0 : Bool → Option R) (hv : True) : l_tutorlaw12_PointNils v K0 = K0 true := by kernel_rfl

end Go.Ev
