/- Functions of the program, as trees of tests over numbers and lists; no program in sight. -/
import Derived.Test.YtjjdadbbiciigaaGreatDoorLogTakesPureA
import Derived.Test.YtjjdadbbiciigaaGreatDoorTkEvMach
import Derived.Test.YtjjdadbbiciigaaGreatDoorTkEvNum
import Derived.Test.YtjjdadbbiciigaaGreatDoorTkEvBts
import Derived.Test.YtjjdadbbiciigaaGreatDoorTkEvText
import Derived.Test.YtjjdadbbiciigaaGreatDoorTkEvImp
import Derived.Test.YtjjdadbbiciigaaGreatDoorTkEvBack
import Derived.Test.YtjjdadbbiciigaaGreatDoorTkEvThere
import Derived.Test.YtjjdadbbiciigaaGreatDoorTkEvSrch
import Derived.Test.YtjjdadbbiciigaaGreatDoorTkEvLog
import Derived.Test.YtjjdadbbiciigaaGreatDoorTkEvLogD
import Derived.Test.YtjjdadbbiciigaaGreatDoorTkEvWord
import Derived.Test.YtjjdadbbiciigaaGreatDoorTkEvBfs
import Derived.Test.YtjjdadbbiciigaaGreatDoorTkEvBfs2
import Derived.Test.YtjjdadbbiciigaaGreatDoorTkEvBfs3
import Derived.Test.YtjjdadbbiciigaaGreatDoorTkEvSep
import Derived.Test.YtjjdadbbiciigaaGreatDoorTkEvTell
namespace Go.Ev
/- The functions by short names: q0 tutorref03_Big, q1 tutorref27_Big, q2 bytes_Count, q3 log_reader_want, q4 bytes_Equal, q5 bytes_HasPrefix, q6 log_reader_is, q7 text_Number, q8 log_reader_number, q9 log_reader_first, qa log_query, qb log_reader_row, qc log_reader_member, qd log_of, qe word_alphabet, qf word_Check, qg teach_of, qh teach_member_1, qi slices_IndexFunc_int_int_fteach_member_1, qj slices_IndexFunc_int_int, qk slices_ContainsFunc_int_int_fteach_member_1, ql slices_ContainsFunc_int_int, qm teach_member, qn teach_Check, qo log_asked_fault, qp machine_says, qq machine_head, qr machine_beyond, qs machine_Check, qt log_alike, qu log_tested_fault, qv bytes_Index, qw text_reader_want_none, qx text_reader_want, qy text_reader_number_fault, qz text_reader_number, q10 text_reader_want_fault, q11 text_reader_number_none, q12 text_reader_read_none, q13 text_reader_read, q14 errors_As_fault_nil, q15 errors_As, q16 errors_As_none_fault_nil, q17 text_Import, q18 log_reader_hypo, q19 log_Parse, q1a log_head, q1b log_Check, q1c strconv_AppendInt, q1d text_Put, q1e log_numbers, q1f log_asked_text, q1g text_Export, q1h slices_Grow_byte_byte, q1i slices_Concat_byte_byte, q1j log_tested_text, q1k log_Show, q1l log_Counts, q1m tutorlaw27_num, q1n tutorlaw27_live, q1o tutorref27_Counts, q1p log_alike_v1, q1q machine_From, q1r machine_Run, q1s slices_Equal_int_int, q1t log_asked_truth, q1u differ_fit, q1v slices_Reverse_int_int, q1w differ_back, q1x differ_search, q1y differ_Separate, q1z differ_Equal, q20 log_tested_truth, q21 log_Agrees, q22 tutorref01_Check, q23 tutorref10_Check, q24 tutorref03_Check, q25 tutorref27_alike, q26 tutorref27_fault, q27 tutorref27_Check, q28 tutorref03_Go, q29 tutorref03_From, q2a tutorref03_Run, q2b tutorref01_Same, q2c tutorref07_now, q2d tutorref01_Join, q2e tutorref07_search, q2f tutorref07_Separate, q2g tutorref27_holds, q2h tutorref27_Agrees, q2i slices_Clone_int_int, q2j log_Script, q2k tutorref27_Script, q2l tutorref10_Same, q2m tutorlaw27_LogTakes -/
noncomputable section
set_option linter.unusedVariables false
set_option linter.unusedSimpArgs false
set_option maxRecDepth 100000
set_option maxHeartbeats 4000000

abbrev LT_q1i := {R : Type} -> (List (List Int)) -> (Nat -> (List Int) -> Option R) -> ((List Int) -> Option R) -> Option R
abbrev GT_q1i_3 (R : Type) := (List (List Int)) -> Int -> (List (List Int)) -> Int -> Int -> Option R
abbrev GT_q1i_11a (R : Type) := Nat -> (List (List Int)) -> Int -> Int -> (List Int) -> Option R
abbrev GT_q1i_11b (R : Type) := (List (List Int)) -> Int -> Int -> (List Int) -> Option R
abbrev gs_q1i_3 (l_q1h : LT_q1h) {R : Type} (g152_3 : GT_q1i_3 R) (g152_11 : GT_q1i_11a R) (g152_11b : GT_q1i_11b R) (K0 : Nat -> (List Int) -> Option R) (K1 : (List Int) -> Option R) (slices : List (List Int)) (size : Int) (x9 : List (List Int)) (x10 x11 : Int) : Option R :=
 bi (decide (x11 < x10)) (bi (decide (0 ≤ x11 ∧ x11 < ((x9.length : Nat) : Int))) (bi (decide ((IntKind.i64.wrap (size + ((x9.getD x11.toNat []).length : Int))) < 0)) none (g152_3 slices (IntKind.i64.wrap (size + ((x9.getD x11.toNat []).length : Int))) x9 x10 (IntKind.i64.wrap (x11 + 1)))) none) (l_q1h size (fun r1 r2 => g152_11 r1 slices (slices.length : Int) 0 r2) (fun r3 =>
 g152_11b slices (slices.length : Int) 0 r3))

def s_q1i_3 {R : Type} := @gs_q1i_3 @l_q1h R

abbrev gs_q1i_11a (l_q1h : LT_q1h) {R : Type} (g152_3 : GT_q1i_3 R) (g152_11 : GT_q1i_11a R) (g152_11b : GT_q1i_11b R) (K0 : Nat -> (List Int) -> Option R) (K1 : (List Int) -> Option R) (newslice : Nat) (x25 : List (List Int)) (x26 x27 : Int) (o0 : List Int) : Option R :=
 bi (decide (x27 < x26)) (bi (decide (0 ≤ x27 ∧ x27 < ((x25.length : Nat) : Int))) (bi (decide (((o0.take newslice).length + (x25.getD x27.toNat []).length) * 1 ≤ lim)) (g152_11b x25 x26 (IntKind.i64.wrap (x27 + 1)) ((o0.take newslice) ++ (x25.getD x27.toNat []))) none) none) (K0 newslice o0)

def s_q1i_11a {R : Type} := @gs_q1i_11a @l_q1h R

abbrev gs_q1i_11b (l_q1h : LT_q1h) {R : Type} (g152_3 : GT_q1i_3 R) (g152_11 : GT_q1i_11a R) (g152_11b : GT_q1i_11b R) (K0 : Nat -> (List Int) -> Option R) (K1 : (List Int) -> Option R) (x25 : List (List Int)) (x26 x27 : Int) (o0 : List Int) : Option R :=
 bi (decide (x27 < x26)) (bi (decide (0 ≤ x27 ∧ x27 < ((x25.length : Nat) : Int))) (bi (decide ((o0.length + (x25.getD x27.toNat []).length) * 1 ≤ lim)) (g152_11b x25 x26 (IntKind.i64.wrap (x27 + 1)) (o0 ++ (x25.getD x27.toNat []))) none) none) (K1 o0)

def s_q1i_11b {R : Type} := @gs_q1i_11b @l_q1h R

abbrev ge_q1i (l_q1h : LT_q1h) {R : Type} (g152_3 : GT_q1i_3 R) (g152_11 : GT_q1i_11a R) (g152_11b : GT_q1i_11b R) (K0 : Nat -> (List Int) -> Option R) (K1 : (List Int) -> Option R) (slices : List (List Int)) : Option R :=
 g152_3 slices 0 slices (slices.length : Int) 0

def e_q1i {R : Type} := @ge_q1i @l_q1h R

def run_q1i {R : Type} (K0 : Nat -> (List Int) -> Option R) (K1 : (List Int) -> Option R) : Nat -> (GT_q1i_3 R) × (GT_q1i_11a R) × (GT_q1i_11b R)
 |0 => (fun _ _ _ _ _ => none, fun _ _ _ _ _ => none, fun _ _ _ _ => none)
 |n + 1 => (fun r => (s_q1i_3 r.1 r.2.1 r.2.2 K0 K1, s_q1i_11a r.1 r.2.1 r.2.2 K0 K1, s_q1i_11b r.1 r.2.1 r.2.2 K0 K1)) (run_q1i K0 K1 n)

def l_q1i {R : Type} (slices : List (List Int)) (K0 : Nat -> (List Int) -> Option R) (K1 : (List Int) -> Option R) : Option R := evl fun fuel => e_q1i (run_q1i K0 K1 fuel).1 (run_q1i K0 K1 fuel).2.1 (run_q1i K0 K1 fuel).2.2 K0 K1 slices

theorem bcat_go {R : Type} {ss : List (List Int)} (hl : ss.length ≤ 1000) (K0 : Nat -> List Int -> Option R) (K1 : List Int -> Option R) : ∀ (d i : Nat) (o : List Int), i + d = ss.length -> o.length + (ss.drop i).flatten.length ≤ 1000000000 →
  Reach (fun m => (run_q1i K0 K1 m).2.2 ss (ss.length : Int) (i : Int) o) (K1 (o ++ (ss.drop i).flatten)) := by
 intro d
 induction d with
 |zero =>
  intro i o hi hb
  refine .now fun m => ?_
  dsimp only [run_q1i]
  unfold s_q1i_11b gs_q1i_11b
  rw [br_neg (by omega), List.drop_of_length_le (by omega)]
  simp
 |succ d ih =>
  intro i o hi hb
  have h1 : i < ss.length := by omega
  rw [List.drop_eq_getElem_cons h1] at hb ⊢
  simp only [List.flatten_cons, List.length_append] at hb
  refine .step (fun m => ?_) ((ih (i + 1) (o ++ ss[i]) (by omega) (by rw [List.length_append]; omega)).of_eq (by rw [List.flatten_cons, List.append_assoc]))
  dsimp only [run_q1i]
  unfold s_q1i_11b gs_q1i_11b
  rw [br_pos (by omega), br_pos (by omega), Int.toNat_natCast, getD_of [] h1, br_pos (by simp only [lim]; omega), wr _ (by omega) (by omega)]
  rfl

theorem bsize_go {R : Type} {ss : List (List Int)} (hl : 0 < ss.length ∧ ss.length ≤ 1000) (hb : 1 ≤ ss.flatten.length ∧ ss.flatten.length ≤ 1000000000) (K0 : Nat -> List Int -> Option R) (K1 : List Int -> Option R) : ∀ (d i : Nat) (z : Nat), i + d = ss.length -> z + (ss.drop i).flatten.length = ss.flatten.length →
  Reach (fun m => (run_q1i K0 K1 m).1 ss (z : Int) ss (ss.length : Int) (i : Int)) (K1 ss.flatten) := by
 intro d
 induction d with
 |zero =>
  intro i z hi hz
  rw [List.drop_of_length_le (by omega)] at hz
  simp only [List.flatten_nil, List.length_nil, Nat.add_zero] at hz
  have h0 : 0 < ss.length := hl.1
  have e0 : ss.flatten = ss[0] ++ (ss.drop 1).flatten := by
   have : ss.drop 0 = ss[0] :: ss.drop 1 := List.drop_eq_getElem_cons h0
   rw [List.drop_zero] at this
   conv => lhs; rw [this]
   rfl
  have hlen := congrArg List.length e0
  rw [List.length_append] at hlen
  refine .step (G := fun m => (run_q1i K0 K1 m).2.1 0 ss (ss.length : Int) ((0 : Nat) : Int) (List.replicate z 0)) (fun m => ?_) (.step (fun m => ?_) ((bcat_go hl.2 K0 K1 (ss.length - 1) 1 ss[0] (by omega) (by omega)).of_eq (by rw [← e0])))
  ·dsimp only [run_q1i]
   unfold s_q1i_3 gs_q1i_3 l_q1h
   rw [br_neg (by omega), br_neg (by omega), wr ((z : Int) - 0) (by omega) (by omega), br_pos (by omega), br_pos (by omega), br_pos (by omega), br_pos (by rw [List.length_replicate]; omega), show ((z : Int) - 0).toNat = z by omega]
   rfl
  ·dsimp only [run_q1i]
   unfold s_q1i_11a gs_q1i_11a
   rw [br_pos (by omega), br_pos (by omega), Int.toNat_natCast, getD_of [] h0, br_pos (by simp only [List.take_zero, List.length_nil, lim]; omega), wr _ (by omega) (by omega), List.take_zero, List.nil_append]
   rfl
 |succ d ih =>
  intro i z hi hz
  have h1 : i < ss.length := by omega
  rw [List.drop_eq_getElem_cons h1] at hz
  simp only [List.flatten_cons, List.length_append] at hz
  refine .step (fun m => ?_) (ih (i + 1) (z + ss[i].length) (by omega) (by omega))
  dsimp only [run_q1i]
  unfold s_q1i_3 gs_q1i_3
  rw [br_pos (by omega), br_pos (by omega), Int.toNat_natCast, getD_of [] h1, wr ((z : Int) + (ss[i].length : Int)) (by omega) (by omega), br_neg (by omega), wr _ (by omega) (by omega)]
  rfl

theorem bconcat_eq {R : Type} {ss : List (List Int)} (hl : 0 < ss.length ∧ ss.length ≤ 1000) (hb : 1 ≤ ss.flatten.length ∧ ss.flatten.length ≤ 1000000000) (K0 : Nat -> List Int -> Option R) (K1 : List Int -> Option R) : l_q1i ss K0 K1 = K1 ss.flatten := by
 unfold l_q1i
 exact evl_eq (.same (fun m => rfl) (bsize_go hl hb K0 K1 ss.length 0 0 (by omega) (by rw [List.drop_zero, Nat.zero_add])))

abbrev LT_q1j := {R : Type} -> Int -> (List Int) -> Int -> Int -> Int -> Int -> (List Int) -> (List Int) -> Int -> (List Int) -> (List Int) -> ((List Int) -> Option R) -> ((List Int) -> Option R) -> Option R
abbrev gl_q1j (l_q1e : LT_q1e) (l_q1i : LT_q1i) (l_q1g : LT_q1g) {R : Type} (r : Int) (r_1 : List Int) (r_2 r_3 r_4 r_5 : Int) (r_6 r_7 : List Int) (r_8 : Int) (r_9 r_10 : List Int) (K0 : (List Int) -> Option R) (K1 : (List Int) -> Option R) : Option R :=
 l_q1g r_2 r_3 r_4 r_5 r_6 r_7 (fun r1 r2 => bi (decide (0 < [33, 10].length)) (bi (decide (0 < [61, 32].length)) (l_q1i [[33, 10], r2, [61, 32]] (fun r3 r4 => bi (r_8 == 2) (bi (decide (((r4.take r3).length + (bts (ByteArray.mk #[121, 10])).length) * 1 ≤ lim)) (K0 ((r4.take r3) ++ (bts (ByteArray.mk #[121, 10])))) none) (both (both
 (bi (decide (((r4.take r3).length + [110].length) * 1 ≤ lim)) (twice (l_q1e r_10 ((r4.take r3) ++ [110]) (fun r5 => bi (decide ((r5.length + [10].length) * 1 ≤ lim)) (K0 (r5 ++ [10])) none) (fun r6 => bi (decide ((r6.length + [10].length) * 1 ≤ lim)) (K1 (r6 ++ [10])) none))) none) (bi (decide (((r4.take r3).length + [110].length) * 1 ≤ lim)) (l_q1e r_10 ((r4.take r3) ++ [110])
 (fun r5 => bi (decide ((r5.length + [10].length) * 1 ≤ lim)) (K0 (r5 ++ [10])) none) (fun r6 => bi (decide ((r6.length + [10].length) * 1 ≤ lim)) (K1 (r6 ++ [10])) none)) none)) (bi (decide (((r4.take r3).length + [110].length) * 1 ≤ lim)) (l_q1e r_10 ((r4.take r3) ++ [110]) (fun r5 => bi (decide ((r5.length + [10].length) * 1 ≤ lim)) (K0 (r5 ++ [10])) none) (fun r6 =>
 bi (decide ((r6.length + [10].length) * 1 ≤ lim)) (K1 (r6 ++ [10])) none)) none))) (fun r7 => bi (r_8 == 2) (bi (decide ((r7.length + (bts (ByteArray.mk #[121, 10])).length) * 1 ≤ lim)) (K0 (r7 ++ (bts (ByteArray.mk #[121, 10])))) none) (both (both (bi (decide ((r7.length + [110].length) * 1 ≤ lim)) (twice (l_q1e r_10 (r7 ++ [110]) (fun r8 =>
 bi (decide ((r8.length + [10].length) * 1 ≤ lim)) (K0 (r8 ++ [10])) none) (fun r9 => bi (decide ((r9.length + [10].length) * 1 ≤ lim)) (K1 (r9 ++ [10])) none))) none) (bi (decide ((r7.length + [110].length) * 1 ≤ lim)) (l_q1e r_10 (r7 ++ [110]) (fun r8 => bi (decide ((r8.length + [10].length) * 1 ≤ lim)) (K0 (r8 ++ [10])) none) (fun r9 => bi (decide ((r9.length + [10].length) * 1 ≤ lim))
 (K1 (r9 ++ [10])) none)) none)) (bi (decide ((r7.length + [110].length) * 1 ≤ lim)) (l_q1e r_10 (r7 ++ [110]) (fun r8 => bi (decide ((r8.length + [10].length) * 1 ≤ lim)) (K0 (r8 ++ [10])) none) (fun r9 => bi (decide ((r9.length + [10].length) * 1 ≤ lim)) (K1 (r9 ++ [10])) none)) none)))) none) none)

def l_q1j {R : Type} := @gl_q1j @l_q1e @l_q1i @l_q1g R

theorem ltested_eq {R : Type} {k K O N : Int} {nx ou : List Int} (o1 : okL nx) (o2 : okL ou) {v : List Int} (hx : (exportS k K O N nx ou).1.length ≤ 100000000) (hv : v.length ≤ 100000) (hvi : ∀ x ∈ v, inI x) (q : Int) (w : List Int) (a : Int) (o : List Int) (KK : List Int -> Option R) :
  l_q1j q w k K O N nx ou a o v KK KK = KK (tstT (exportS k K O N nx ou).1 a v) := by
 have e1 : bts (ByteArray.mk #[121, 10]) = [121, 10] := rfl
 have lv := lnumS_len hvi
 unfold l_q1j gl_q1j l_q1g tstT
 rw [export_eq o1 o2]
 try dsimp only
 generalize (exportS k K O N nx ou).1 = ex at *
 have hf : ([[33, 10], ex, [61, 32]] : List (List Int)).flatten = [33, 10] ++ ex ++ [61, 32] := by simp
 have hl : ([33, 10] ++ ex ++ [61, 32] : List Int).length = ex.length + 4 := by
  simp only [List.length_append, List.length_cons, List.length_nil]
  omega
 rw [br_pos (by decide), br_pos (by decide), bconcat_eq (by simp) (by rw [hf, hl]; omega), hf]
 try dsimp only
 generalize hz : ([33, 10] ++ ex ++ [61, 32] : List Int) = z at *
 simp only [e1, both_same, twice_eq, thrice_eq]
 by_cases c : a = 2
 ·rw [br_eq c, if_pos c, br_pos (by simp only [List.length_cons, List.length_nil, lim]; omega)]
 ·rw [br_eq' c, if_neg c, br_pos (by simp only [List.length_cons, List.length_nil, lim]; omega), lnums_eq (by omega) hvi (by simp only [List.length_append, List.length_cons, List.length_nil]; omega)]
  by_cases d : v = []
  ·subst d
   rw [if_pos rfl]
   try dsimp only
   rw [br_pos (by simp only [List.length_append, List.length_cons, List.length_nil, lim]; omega)]
   simp [lnumS]
  ·rw [if_neg d]
   try dsimp only
   rw [br_pos (by simp only [List.length_append, List.length_cons, List.length_nil, lim]; omega)]

abbrev LT_q1k := {R : Type} -> Int -> Int -> Int -> (List Ent) -> (Int -> (List Int) -> Option R) -> (Int -> (List Int) -> Option R) -> Option R
abbrev GT_q1k_9a (R : Type) := (List Ent) -> Int -> Int -> (List Int) -> Option R
abbrev GT_q1k_9b (R : Type) := (List Ent) -> Int -> Int -> (List Int) -> Option R
abbrev gs_q1k_9a (l_q1e : LT_q1e) (l_q1b : LT_q1b) (l_q1f : LT_q1f) (l_q1j : LT_q1j) (l_qd : LT_qd) {R : Type} (g15_9 : GT_q1k_9a R) (g15_9b : GT_q1k_9b R) (K0 : Int -> (List Int) -> Option R) (K1 : Int -> (List Int) -> Option R) (x38 : List Ent) (x39 x40 : Int) (o0 : List Int) : Option R :=
 bi (decide (x40 < x39)) (bi (decide (0 ≤ x40 ∧ x40 < ((x38.length : Nat) : Int)))
 (l_qd ((eat x38 x40).1.1) ((eat x38 x40).1.2.1) ((eat x38 x40).1.2.2.1) ((eat x38 x40).1.2.2.2.1) ((eat x38 x40).1.2.2.2.2.1) ((eat x38 x40).1.2.2.2.2.2.1) ((eat x38 x40).1.2.2.2.2.2.2.1) ((eat x38 x40).1.2.2.2.2.2.2.2) ((eat x38 x40).2.1) ((eat x38 x40).2.2.1) ((eat x38 x40).2.2.2)
 (fun r9 r10 r11 r12 r13 r14 r15 r16 r17 r18 r19 => l_q1f r9 r10 r11 r12 r13 r14 r15 r16 r17 r18 r19 (fun r20 => bi (decide ((o0.length + r20.length) * 1 ≤ lim)) (g15_9 x38 x39 (IntKind.i64.wrap (x40 + 1)) (o0 ++ r20)) none) (fun r21 => bi (decide ((o0.length + r21.length) * 1 ≤ lim)) (g15_9 x38 x39 (IntKind.i64.wrap (x40 + 1)) (o0 ++ r21)) none))
 (fun r22 r23 r24 r25 r26 r27 r28 r29 r30 r31 r32 => l_q1j r22 r23 r24 r25 r26 r27 r28 r29 r30 r31 r32 (fun r33 => bi (decide ((o0.length + r33.length) * 1 ≤ lim)) (g15_9 x38 x39 (IntKind.i64.wrap (x40 + 1)) (o0 ++ r33)) none) (fun r34 => bi (decide ((o0.length + r34.length) * 1 ≤ lim)) (g15_9 x38 x39 (IntKind.i64.wrap (x40 + 1)) (o0 ++ r34)) none)) none) none) (K0 0 o0)

def s_q1k_9a {R : Type} := @gs_q1k_9a @l_q1e @l_q1b @l_q1f @l_q1j @l_qd R

abbrev gs_q1k_9b (l_q1e : LT_q1e) (l_q1b : LT_q1b) (l_q1f : LT_q1f) (l_q1j : LT_q1j) (l_qd : LT_qd) {R : Type} (g15_9 : GT_q1k_9a R) (g15_9b : GT_q1k_9b R) (K0 : Int -> (List Int) -> Option R) (K1 : Int -> (List Int) -> Option R) (x38 : List Ent) (x39 x40 : Int) (o0 : List Int) : Option R :=
 bi (decide (x40 < x39)) (bi (decide (0 ≤ x40 ∧ x40 < ((x38.length : Nat) : Int)))
 (l_qd ((eat x38 x40).1.1) ((eat x38 x40).1.2.1) ((eat x38 x40).1.2.2.1) ((eat x38 x40).1.2.2.2.1) ((eat x38 x40).1.2.2.2.2.1) ((eat x38 x40).1.2.2.2.2.2.1) ((eat x38 x40).1.2.2.2.2.2.2.1) ((eat x38 x40).1.2.2.2.2.2.2.2) ((eat x38 x40).2.1) ((eat x38 x40).2.2.1) ((eat x38 x40).2.2.2)
 (fun r35 r36 r37 r38 r39 r40 r41 r42 r43 r44 r45 => l_q1f r35 r36 r37 r38 r39 r40 r41 r42 r43 r44 r45 (fun r46 => bi (decide ((o0.length + r46.length) * 1 ≤ lim)) (g15_9b x38 x39 (IntKind.i64.wrap (x40 + 1)) (o0 ++ r46)) none) (fun r47 => bi (decide ((o0.length + r47.length) * 1 ≤ lim)) (g15_9b x38 x39 (IntKind.i64.wrap (x40 + 1)) (o0 ++ r47)) none))
 (fun r48 r49 r50 r51 r52 r53 r54 r55 r56 r57 r58 => l_q1j r48 r49 r50 r51 r52 r53 r54 r55 r56 r57 r58 (fun r59 => bi (decide ((o0.length + r59.length) * 1 ≤ lim)) (g15_9b x38 x39 (IntKind.i64.wrap (x40 + 1)) (o0 ++ r59)) none) (fun r60 => bi (decide ((o0.length + r60.length) * 1 ≤ lim)) (g15_9b x38 x39 (IntKind.i64.wrap (x40 + 1)) (o0 ++ r60)) none)) none) none) (K1 0 o0)

def s_q1k_9b {R : Type} := @gs_q1k_9b @l_q1e @l_q1b @l_q1f @l_q1j @l_qd R

abbrev ge_q1k (l_q1e : LT_q1e) (l_q1b : LT_q1b) (l_q1f : LT_q1f) (l_q1j : LT_q1j) (l_qd : LT_qd) {R : Type} (g15_9 : GT_q1k_9a R) (g15_9b : GT_q1k_9b R) (K0 : Int -> (List Int) -> Option R) (K1 : Int -> (List Int) -> Option R) (l l_1 l_2 : Int) (l_3 : List Ent) : Option R :=
 l_q1b l l_1 l_2 l_3 (fun r1 r2 => bi (r2 != 0) (K0 r2 ([] : List Int)) (bi (decide (0 < [108, 111, 103, 32, 100, 102, 97].length)) (l_q1e [l_1] [108, 111, 103, 32, 100, 102, 97] (fun r3 => bi (l == 2) (bi (decide (0 < [108, 111, 103, 32, 109, 101, 97, 108, 121].length)) (l_q1e [l_1, l_2] [108, 111, 103, 32, 109, 101, 97, 108, 121] (fun r4 =>
 bi (decide ((r4.length + [10].length) * 1 ≤ lim)) (g15_9 l_3 (l_3.length : Int) 0 (r4 ++ [10])) none) (fun r5 => bi (decide ((r5.length + [10].length) * 1 ≤ lim)) (g15_9b l_3 (l_3.length : Int) 0 (r5 ++ [10])) none)) none) (bi (decide ((r3.length + [10].length) * 1 ≤ lim)) (g15_9 l_3 (l_3.length : Int) 0 (r3 ++ [10])) none)) (fun r6 => bi (l == 2)
 (bi (decide (0 < [108, 111, 103, 32, 109, 101, 97, 108, 121].length)) (l_q1e [l_1, l_2] [108, 111, 103, 32, 109, 101, 97, 108, 121] (fun r7 => bi (decide ((r7.length + [10].length) * 1 ≤ lim)) (g15_9 l_3 (l_3.length : Int) 0 (r7 ++ [10])) none) (fun r8 => bi (decide ((r8.length + [10].length) * 1 ≤ lim)) (g15_9b l_3 (l_3.length : Int) 0 (r8 ++ [10])) none)) none)
 (bi (decide ((r6.length + [10].length) * 1 ≤ lim)) (g15_9b l_3 (l_3.length : Int) 0 (r6 ++ [10])) none))) none))

def e_q1k {R : Type} := @ge_q1k @l_q1e @l_q1b @l_q1f @l_q1j @l_qd R

def run_q1k {R : Type} (K0 : Int -> (List Int) -> Option R) (K1 : Int -> (List Int) -> Option R) : Nat -> (GT_q1k_9a R) × (GT_q1k_9b R)
 |0 => (fun _ _ _ _ => none, fun _ _ _ _ => none)
 |n + 1 => (fun r => (s_q1k_9a r.1 r.2 K0 K1, s_q1k_9b r.1 r.2 K0 K1)) (run_q1k K0 K1 n)

def l_q1k {R : Type} (l l_1 l_2 : Int) (l_3 : List Ent) (K0 : Int -> (List Int) -> Option R) (K1 : Int -> (List Int) -> Option R) : Option R := evl fun fuel => e_q1k (run_q1k K0 K1 fuel).1 (run_q1k K0 K1 fuel).2 K0 K1 l l_1 l_2 l_3

theorem lshow_go {R : Type} {l : List Ent} (hl : l.length ≤ 65536) (hx : ∀ x ∈ l, showE x) (K0 K1 : Int -> List Int -> Option R) : ∀ (d i : Nat) (o : List Int), i + d = l.length -> o.length ≤ 1000 + 110000000 * i →
  Reach (fun m => (run_q1k K0 K1 m).2 l (l.length : Int) (i : Int) o) (K1 0 (o ++ entsT (l.drop i))) := by
 intro d
 induction d with
 |zero =>
  intro i o hd ho
  refine .now fun m => ?_
  dsimp only [run_q1k]
  unfold s_q1k_9b gs_q1k_9b eat
  rw [br_neg (by omega), List.drop_of_length_le (by omega)]
  simp [entsT]
 |succ d ih =>
  intro i o hd ho
  have h1 : i < l.length := by omega
  have hE := hx _ (List.getElem_mem h1)
  have hn := entT_len hE
  rw [List.drop_eq_getElem_cons h1, entsT_cons]
  refine .step (fun m => ?_) ((ih (i + 1) (o ++ entT l[i]) (by omega) (by rw [List.length_append]; omega)).of_eq (by simp))
  dsimp only [run_q1k]
  unfold s_q1k_9b gs_q1k_9b eat
  rw [br_pos (by omega), br_pos (by omega), Int.toNat_natCast, getD_of _ h1, wr _ (by omega) (by omega)]
  unfold l_qd
  rcases hE with ⟨g1, ⟨g2, g3⟩, g4, g5⟩ | ⟨g1, ⟨g2, g3⟩, g4, g5, g6⟩
  ·have e : entT l[i] = askT l[i].1.2.1 l[i].2.2.1 := by
    unfold entT
    rw [if_pos g1]
   rw [br_eq g1]
   try dsimp only
   rw [lasked_eq g2 g3 g4 g5, ← e]
   try dsimp only
   rw [br_pos (by simp only [lim]; omega), ite_self]
   rfl
  ·have e : entT l[i] = tstT (exportS l[i].1.2.2.1 l[i].1.2.2.2.1 l[i].1.2.2.2.2.1 l[i].1.2.2.2.2.2.1 l[i].1.2.2.2.2.2.2.1 l[i].1.2.2.2.2.2.2.2).1 l[i].2.1 l[i].2.2.2 := by
    unfold entT
    rw [if_neg (by omega)]
   rw [br_eq' (by omega), br_eq g1]
   try dsimp only
   rw [ltested_eq g2 g3 g4 g5 g6, ← e]
   try dsimp only
   rw [br_pos (by simp only [lim]; omega)]
   rfl

theorem lshow_eq {R : Type} {k K O : Int} {l : List Ent} (hl : l.length ≤ 1000000) (hx : ∀ x ∈ l, okEnt x) (he : (lcheckS k K O l).2 = 0 -> ∀ x ∈ l, showE x) (K0 K1 : Int -> List Int -> Option R) :
  l_q1k k K O l K0 K1 = if (lcheckS k K O l).2 ≠ 0 then K0 (lcheckS k K O l).2 [] else K1 0 (lheadT k K O ++ entsT l) := by
 unfold l_q1k
 by_cases h : (lcheckS k K O l).2 = 0
 ·rw [if_neg (by simpa using h)]
  obtain ⟨h1, h2, h3, h4, h5⟩ := lheadS_zero.1 (lcheckS_head h)
  have iK : inI K := by unfold inI; omega
  have iO : inI O := by unfold inI; omega
  have lK := lnumS_len (l := [K]) (by simpa using iK)
  have lKO := lnumS_len (l := [K, O]) (by simpa using ⟨iK, iO⟩)
  simp only [List.length_cons, List.length_nil] at lK lKO
  have hh : (lheadT k K O).length ≤ 100 := by
   unfold lheadT
   split <;> simp only [List.length_append, List.length_cons, List.length_nil] <;> omega
  refine evl_eq (.same (G := fun m => (run_q1k K0 K1 m).2 l (l.length : Int) ((0 : Nat) : Int) (lheadT k K O)) (fun m => ?_) ((lshow_go h5 (he h) K0 K1 l.length 0 _ (by omega) (by omega)).of_eq (by rw [List.drop_zero])))
  unfold e_q1k ge_q1k
  rw [lcheck_eq hl hx]
  try dsimp only
  rw [br_ne' h, br_pos (by decide), lnums_eq (by simp) (by simpa using iK) (by simp), if_neg (by simp)]
  try dsimp only
  unfold lheadT
  by_cases c : k = 2
  ·rw [br_eq c, if_pos c, br_pos (by decide), lnums_eq (by simp) (by simpa using ⟨iK, iO⟩) (by simp), if_neg (by simp)]
   try dsimp only
   rw [br_pos (by simp only [List.length_append, List.length_cons, List.length_nil, lim]; omega)]
   rfl
  ·rw [br_eq' c, if_neg c]
   try dsimp only
   rw [br_pos (by simp only [List.length_append, List.length_cons, List.length_nil, lim]; omega)]
   rfl
 ·rw [if_pos h]
  refine evl_eq (.now fun m => ?_)
  unfold e_q1k ge_q1k
  rw [lcheck_eq hl hx]
  try dsimp only
  rw [br_ne h]

abbrev LT_q1l := {R : Type} -> Int -> Int -> Int -> (List Ent) -> (Int -> Int -> Int -> Option R) -> Option R
abbrev GT_q1l_2 (R : Type) := Int -> Int -> Int -> (List Ent) -> Int -> Int -> Option R
def s_q1l_2 {R : Type} (g28_2 : GT_q1l_2 R) (K0 : Int -> Int -> Int -> Option R) (members hypos symbols : Int) (x8 : List Ent) (x9 x10 : Int) : Option R :=
 bi (decide (x10 < x9)) (bi (decide (0 ≤ x10 ∧ x10 < ((x8.length : Nat) : Int))) (bi (((eat x8 x10).1.1) == 1)
 (g28_2 (IntKind.i64.wrap (members + 1)) hypos (if 1099511627776 < (IntKind.i64.wrap (symbols + (((eat x8 x10).1.2.1).length : Int))) then 1099511627776 else (IntKind.i64.wrap (symbols + (((eat x8 x10).1.2.1).length : Int)))) x8 x9 (IntKind.i64.wrap (x10 + 1)))
 (bi (((eat x8 x10).1.1) == 2) (g28_2 members (IntKind.i64.wrap (hypos + 1)) symbols x8 x9 (IntKind.i64.wrap (x10 + 1))) (g28_2 members hypos symbols x8 x9 (IntKind.i64.wrap (x10 + 1))))) none) (K0 members hypos symbols)

def e_q1l {R : Type} (g28_2 : GT_q1l_2 R) (K0 : Int -> Int -> Int -> Option R) (l l_1 l_2 : Int) (l_3 : List Ent) : Option R :=
 g28_2 0 0 0 l_3 (l_3.length : Int) 0

def run_q1l {R : Type} (K0 : Int -> Int -> Int -> Option R) : Nat -> GT_q1l_2 R
 |0 => fun _ _ _ _ _ _ => none
 |n + 1 => s_q1l_2 (run_q1l K0 n) K0

def l_q1l {R : Type} (l l_1 l_2 : Int) (l_3 : List Ent) (K0 : Int -> Int -> Int -> Option R) : Option R := evl fun fuel => e_q1l (run_q1l K0 fuel) K0 l l_1 l_2 l_3

/-- How much was asked. -/
def lcntS : List Ent -> Int × Int × Int -> Int × Int × Int
 |[], c => c
 |x :: l, c => lcntS l (if x.1.1 = 1 then (c.1 + 1, c.2.1, if 1099511627776 < c.2.2 + (x.1.2.1.length : Int) then 1099511627776 else c.2.2 + (x.1.2.1.length : Int)) else if x.1.1 = 2 then (c.1, c.2.1 + 1, c.2.2) else c)

theorem lcnt_go {R : Type} {l : List Ent} (hl : l.length ≤ 1000000) (hx : ∀ x ∈ l, x.1.2.1.length ≤ 17592186044000) (K0 : Int -> Int -> Int -> Option R) : ∀ (d i : Nat) (c : Int × Int × Int), i + d = l.length -> (0 ≤ c.1 ∧ c.1 ≤ i) -> (0 ≤ c.2.1 ∧ c.2.1 ≤ i) -> (0 ≤ c.2.2 ∧ c.2.2 ≤ 1099511627776) →
  Reach (fun m => run_q1l K0 m c.1 c.2.1 c.2.2 l (l.length : Int) (i : Int)) (K0 (lcntS (l.drop i) c).1 (lcntS (l.drop i) c).2.1 (lcntS (l.drop i) c).2.2) := by
 intro d
 induction d with
 |zero =>
  intro i c hd h1 h2 h3
  refine .now fun m => ?_
  dsimp only [run_q1l]
  unfold s_q1l_2 eat
  rw [br_neg (by omega), List.drop_of_length_le (by omega)]
  rfl
 |succ d ih =>
  intro i c hd h1 h2 h3
  have hi : i < l.length := by omega
  have hw := hx _ (List.getElem_mem hi)
  rw [List.drop_eq_getElem_cons hi]
  unfold lcntS
  refine .step (fun m => ?_) (ih (i + 1) _ (by omega) ?_ ?_ ?_)
  ·dsimp only [run_q1l]
   unfold s_q1l_2 eat
   rw [br_pos (by omega), br_pos (by omega), Int.toNat_natCast, getD_of _ hi, wr ((i : Int) + 1) (by omega) (by omega), wr (c.1 + 1) (by omega) (by omega), wr (c.2.1 + 1) (by omega) (by omega), wr (c.2.2 + (l[i].1.2.1.length : Int)) (by omega) (by omega)]
   by_cases c1 : l[i].1.1 = 1
   ·rw [br_eq c1, if_pos c1]
    rfl
   ·rw [br_eq' c1, if_neg c1]
    by_cases c2 : l[i].1.1 = 2
    ·rw [br_eq c2, if_pos c2]
     rfl
    ·rw [br_eq' c2, if_neg c2]
     rfl
  ·split
   ·show 0 ≤ c.1 + 1 ∧ c.1 + 1 ≤ ((i + 1 : Nat) : Int)
    omega
   ·split
    ·show 0 ≤ c.1 ∧ c.1 ≤ ((i + 1 : Nat) : Int)
     omega
    ·omega
  ·split
   ·show 0 ≤ c.2.1 ∧ c.2.1 ≤ ((i + 1 : Nat) : Int)
    omega
   ·split
    ·show 0 ≤ c.2.1 + 1 ∧ c.2.1 + 1 ≤ ((i + 1 : Nat) : Int)
     omega
    ·omega
  ·split
   ·show 0 ≤ (if 1099511627776 < c.2.2 + (l[i].1.2.1.length : Int) then 1099511627776 else c.2.2 + (l[i].1.2.1.length : Int)) ∧ (if 1099511627776 < c.2.2 + (l[i].1.2.1.length : Int) then 1099511627776 else c.2.2 + (l[i].1.2.1.length : Int)) ≤ 1099511627776
    split <;> omega
   ·split
    ·exact h3
    ·exact h3

theorem lcnt_eq {R : Type} {k K O : Int} {l : List Ent} (hl : l.length ≤ 1000000) (hx : ∀ x ∈ l, x.1.2.1.length ≤ 17592186044000) (K0 : Int -> Int -> Int -> Option R) : l_q1l k K O l K0 = K0 (lcntS l (0, 0, 0)).1 (lcntS l (0, 0, 0)).2.1 (lcntS l (0, 0, 0)).2.2 := by
 unfold l_q1l
 refine evl_eq (.same (G := fun m => run_q1l K0 m 0 0 0 l (l.length : Int) ((0 : Nat) : Int)) (fun m => rfl) ((lcnt_go hl hx K0 l.length 0 (0, 0, 0) (by omega) (by simp) (by simp) (by simp)).of_eq (by rw [List.drop_zero])))

abbrev LT_q1m := {R : Type} -> Int -> (Int -> Option R) -> Option R
def l_q1m {R : Type} (e : Int) (K0 : Int -> Option R) : Option R :=
 K0 e

abbrev LT_q1n := {R : Type} -> (Bool -> Option R) -> Option R
abbrev gl_q1n (l_q1m : LT_q1m) (l_q19 : LT_q19) (l_q1l : LT_q1l) (l_q1k : LT_q1k) {R : Type}  (K0 : Bool -> Option R) : Option R :=
 bi (decide ((ByteArray.mk #[108, 111, 103, 32, 100, 102, 97, 32, 50, 10, 63, 32, 48, 32, 49, 32, 61, 32, 49, 10, 33, 10, 100, 102, 97, 32, 50, 32, 49, 10, 48, 32, 48, 32, 48, 10, 61, 32, 110, 32, 48, 32, 49, 10]).size ≤ 1073741824))
 (l_q19 (bts (ByteArray.mk #[108, 111, 103, 32, 100, 102, 97, 32, 50, 10, 63, 32, 48, 32, 49, 32, 61, 32, 49, 10, 33, 10, 100, 102, 97, 32, 50, 32, 49, 10, 48, 32, 48, 32, 48, 10, 61, 32, 110, 32, 48, 32, 49, 10])) (fun r1 r2 r3 r4 r5 r6 => l_q1k r1 r2 r3 r6 (fun r7 r8 => l_q1l r1 r2 r3 r6 (fun r9 r10 r11 =>
 bi (decide (0 < [108, 111, 103, 32, 100, 102, 97, 32, 50, 10, 63, 32, 50, 32, 61, 32, 49, 10].length)) (l_q19 [108, 111, 103, 32, 100, 102, 97, 32, 50, 10, 63, 32, 50, 32, 61, 32, 49, 10] (fun r12 r13 r14 r15 r16 r17 => l_q1m r4 (fun r18 => l_q1m r7 (fun r19 => bi ((IntKind.i64.wrap (r18 + r19)) == 0) (bi (r5 == 44)
 (bi ((ofBts r8).toList == (ByteArray.mk #[108, 111, 103, 32, 100, 102, 97, 32, 50, 10, 63, 32, 48, 32, 49, 32, 61, 32, 49, 10, 33, 10, 100, 102, 97, 32, 50, 32, 49, 10, 48, 32, 48, 32, 48, 10, 61, 32, 110, 32, 48, 32, 49, 10]).toList) (bi (r9 == 1) (bi (r10 == 1) (bi (r11 == 2) (l_q1m r15 (fun r20 => bi (r20 == 10) (K0 (r16 == 10)) (K0 false))) (K0 false)) (K0 false)) (K0 false))
 (K0 false)) (K0 false)) (K0 false))))) none)) (fun r21 r22 => l_q1l r1 r2 r3 r6 (fun r23 r24 r25 => bi (decide (0 < [108, 111, 103, 32, 100, 102, 97, 32, 50, 10, 63, 32, 50, 32, 61, 32, 49, 10].length)) (l_q19 [108, 111, 103, 32, 100, 102, 97, 32, 50, 10, 63, 32, 50, 32, 61, 32, 49, 10] (fun r26 r27 r28 r29 r30 r31 => l_q1m r4 (fun r32 => l_q1m r21 (fun r33 =>
 bi ((IntKind.i64.wrap (r32 + r33)) == 0) (bi (r5 == 44) (bi ((ofBts r22).toList == (ByteArray.mk #[108, 111, 103, 32, 100, 102, 97, 32, 50, 10, 63, 32, 48, 32, 49, 32, 61, 32, 49, 10, 33, 10, 100, 102, 97, 32, 50, 32, 49, 10, 48, 32, 48, 32, 48, 10, 61, 32, 110, 32, 48, 32, 49, 10]).toList) (bi (r23 == 1) (bi (r24 == 1) (bi (r25 == 2) (l_q1m r29 (fun r34 => bi (r34 == 10)
 (K0 (r30 == 10)) (K0 false))) (K0 false)) (K0 false)) (K0 false)) (K0 false)) (K0 false)) (K0 false))))) none)))) none

def l_q1n {R : Type} := @gl_q1n @l_q1m @l_q19 @l_q1l @l_q1k R

theorem pageP : parseT [108, 111, 103, 32, 100, 102, 97, 32, 50, 10, 63, 32, 48, 32, 49, 32, 61, 32, 49, 10, 33, 10, 100, 102, 97, 32, 50, 32, 49, 10, 48, 32, 48, 32, 48, 10, 61, 32, 110, 32, 48, 32, 49, 10] =
  (1, 2, 2, 0, 44, [((1, ([0, 1], (1, (2, (2, (0, ([], []))))))), (1, ([1], []))), ((2, ([], (1, (2, (2, (1, ([0, 0], [0]))))))), (3, ([], [0, 1])))]) := by kernel_rfl

theorem pageC : lcheckS 1 2 2 [((1, ([0, 1], (1, (2, (2, (0, ([], []))))))), (1, ([1], []))), ((2, ([], (1, (2, (2, (1, ([0, 0], [0]))))))), (3, ([], [0, 1])))] = (2, 0) := by kernel_rfl

theorem pageT : lheadT 1 2 2 ++ entsT [((1, ([0, 1], (1, (2, (2, (0, ([], []))))))), (1, ([1], []))), ((2, ([], (1, (2, (2, (1, ([0, 0], [0]))))))), (3, ([], [0, 1])))] =
  [108, 111, 103, 32, 100, 102, 97, 32, 50, 10, 63, 32, 48, 32, 49, 32, 61, 32, 49, 10, 33, 10, 100, 102, 97, 32, 50, 32, 49, 10, 48, 32, 48, 32, 48, 10, 61, 32, 110, 32, 48, 32, 49, 10] := by kernel_rfl

theorem pageN : lcntS [((1, ([0, 1], (1, (2, (2, (0, ([], []))))))), (1, ([1], []))), ((2, ([], (1, (2, (2, (1, ([0, 0], [0]))))))), (3, ([], [0, 1])))] (0, 0, 0) = (1, 1, 2) := by kernel_rfl

theorem live27 {R : Type} (K0 : Bool -> Option R) : l_q1n K0 = K0 true := by
 unfold l_q1n gl_q1n
 have ok : ∀ x ∈ ([((1, ([0, 1], (1, (2, (2, (0, ([], []))))))), (1, ([1], []))), ((2, ([], (1, (2, (2, (1, ([0, 0], [0]))))))), (3, ([], [0, 1])))] : List Ent), okEnt x := by
  intro x hx
  simp only [List.mem_cons, List.not_mem_nil, or_false] at hx
  rcases hx with rfl | rfl <;> (unfold okEnt short; simp)
 have sh : ∀ x ∈ ([((1, ([0, 1], (1, (2, (2, (0, ([], []))))))), (1, ([1], []))), ((2, ([], (1, (2, (2, (1, ([0, 0], [0]))))))), (3, ([], [0, 1])))] : List Ent), showE x := by
  intro x hx
  simp only [List.mem_cons, List.not_mem_nil, or_false] at hx
  rcases hx with rfl | rfl
  ·exact .inl (by simp [inI])
  ·refine .inr ⟨rfl, ⟨by decide, by decide⟩, ?_, by simp [inI]⟩
   rw [show exportS (1 : Int) 2 2 1 [0, 0] [0] = ([100, 102, 97, 32, 50, 32, 49, 10, 48, 32, 48, 32, 48, 10], 0) by kernel_rfl]
   simp
 rw [br_pos (by decide), show bts (ByteArray.mk #[108, 111, 103, 32, 100, 102, 97, 32, 50, 10, 63, 32, 48, 32, 49, 32, 61, 32, 49, 10, 33, 10, 100, 102, 97, 32, 50, 32, 49, 10, 48, 32, 48, 32, 48, 10, 61, 32, 110, 32, 48, 32, 49, 10]) = [108, 111, 103, 32, 100, 102, 97, 32, 50, 10, 63, 32, 48, 32, 49, 32, 61, 32, 49, 10, 33, 10, 100, 102, 97, 32, 50, 32, 49, 10, 48, 32, 48, 32, 48, 10, 61, 32, 110, 32, 48, 32, 49, 10] by kernel_rfl, lparse_eq (by decide), parseP_eq, pageP]
 try dsimp only
 rw [lshow_eq (by simp) ok (fun _ => sh), pageC, if_neg (by simp), pageT]
 try dsimp only
 rw [lcnt_eq (by simp) (by intro x hx; simp only [List.mem_cons, List.not_mem_nil, or_false] at hx; rcases hx with rfl | rfl <;> simp), pageN]
 try dsimp only
 rw [br_pos (by decide), lparse_eq (by decide), parseP_eq, show parseT [108, 111, 103, 32, 100, 102, 97, 32, 50, 10, 63, 32, 50, 32, 61, 32, 49, 10] = (0, 0, 0, 10, 10, []) by kernel_rfl]
 dsimp only [l_q1m]
 rw [br_eq (by kernel_rfl), br_eq rfl, show ((ofBts [108, 111, 103, 32, 100, 102, 97, 32, 50, 10, 63, 32, 48, 32, 49, 32, 61, 32, 49, 10, 33, 10, 100, 102, 97, 32, 50, 32, 49, 10, 48, 32, 48, 32, 48, 10, 61, 32, 110, 32, 48, 32, 49, 10]).toList == (ByteArray.mk #[108, 111, 103, 32, 100, 102, 97, 32, 50, 10, 63, 32, 48, 32, 49, 32, 61, 32, 49, 10, 33, 10, 100, 102, 97, 32, 50, 32, 49, 10, 48, 32, 48, 32, 48, 10, 61, 32, 110, 32, 48, 32, 49, 10]).toList) = true by kernel_rfl, br_tt, br_eq rfl, br_eq rfl, br_eq rfl, br_eq rfl]
 rfl

abbrev LT_q1o := {R : Type} -> Int -> Int -> Int -> (List Ent) -> (Int -> Int -> Int -> Option R) -> Option R
abbrev GT_q1o_3 (R : Type) := Int -> Int -> Int -> Int -> Int -> Int -> Int -> (List Ent) -> Option R
def s_q1o_3 {R : Type} (g29_3 : GT_q1o_3 R) (K0 : Int -> Int -> Int -> Option R) (a b c i o0 o0_1 o0_2 : Int) (o0_3 : List Ent) : Option R :=
 bi (decide (i < (o0_3.length : Int))) (bi (decide (0 ≤ i ∧ i < ((o0_3.length : Nat) : Int))) (bi (((eat o0_3 i).1.1) == 1) (bi (decide (0 ≤ i ∧ i < ((o0_3.length : Nat) : Int))) (bi (decide (0 ≤ i ∧ i < ((o0_3.length : Nat) : Int))) (bi (((eat o0_3 i).1.1) == 2)
 (g29_3 (IntKind.i64.wrap (a + 1)) (IntKind.i64.wrap (b + 1)) (IntKind.i64.wrap (c + (((eat o0_3 i).1.2.1).length : Int))) (IntKind.i64.wrap (i + 1)) o0 o0_1 o0_2 o0_3)
 (g29_3 (IntKind.i64.wrap (a + 1)) b (IntKind.i64.wrap (c + (((eat o0_3 i).1.2.1).length : Int))) (IntKind.i64.wrap (i + 1)) o0 o0_1 o0_2 o0_3)) none) none) (bi (decide (0 ≤ i ∧ i < ((o0_3.length : Nat) : Int))) (bi (((eat o0_3 i).1.1) == 2)
 (g29_3 a (IntKind.i64.wrap (b + 1)) c (IntKind.i64.wrap (i + 1)) o0 o0_1 o0_2 o0_3) (g29_3 a b c (IntKind.i64.wrap (i + 1)) o0 o0_1 o0_2 o0_3)) none)) none) (bi (decide (c > 1099511627776)) (K0 a b 1099511627776) (K0 a b c))

def e_q1o {R : Type} (g29_3 : GT_q1o_3 R) (K0 : Int -> Int -> Int -> Option R) (l l_1 l_2 : Int) (l_3 : List Ent) : Option R :=
 g29_3 0 0 0 0 l l_1 l_2 l_3

def run_q1o {R : Type} (K0 : Int -> Int -> Int -> Option R) : Nat -> GT_q1o_3 R
 |0 => fun _ _ _ _ _ _ _ _ => none
 |n + 1 => s_q1o_3 (run_q1o K0 n) K0

def l_q1o {R : Type} (l l_1 l_2 : Int) (l_3 : List Ent) (K0 : Int -> Int -> Int -> Option R) : Option R := evl fun fuel => e_q1o (run_q1o K0 fuel) K0 l l_1 l_2 l_3

theorem rcnt_go {R : Type} {k K O : Int} {l : List Ent} (hl : l.length ≤ 1000) (hx : ∀ x ∈ l, x.1.2.1.length ≤ 1000000) (K0 : Int -> Int -> Int -> Option R) : ∀ (d i : Nat) (c : Int × Int × Int), i + d = l.length -> (0 ≤ c.1 ∧ c.1 ≤ i) -> (0 ≤ c.2.1 ∧ c.2.1 ≤ i) -> (0 ≤ c.2.2 ∧ c.2.2 ≤ 1000000 * (i : Int)) →
  Reach (fun m => run_q1o K0 m c.1 c.2.1 c.2.2 (i : Int) k K O l) (K0 (lcntS (l.drop i) c).1 (lcntS (l.drop i) c).2.1 (lcntS (l.drop i) c).2.2) := by
 intro d
 induction d with
 |zero =>
  intro i c hd h1 h2 h3
  refine .now fun m => ?_
  dsimp only [run_q1o]
  unfold s_q1o_3 eat
  rw [br_neg (by omega), List.drop_of_length_le (by omega), br_neg (by omega)]
  rfl
 |succ d ih =>
  intro i c hd h1 h2 h3
  have hi : i < l.length := by omega
  have hw := hx _ (List.getElem_mem hi)
  rw [List.drop_eq_getElem_cons hi]
  have hn : ¬ 1099511627776 < c.2.2 + (l[i].1.2.1.length : Int) := by omega
  by_cases c1 : l[i].1.1 = 1
  ·have e : lcntS (l[i] :: l.drop (i + 1)) c = lcntS (l.drop (i + 1)) (c.1 + 1, c.2.1, c.2.2 + (l[i].1.2.1.length : Int)) := by
    conv => lhs; unfold lcntS
    rw [if_pos c1, if_neg hn]
   rw [e]
   refine .step (fun m => ?_) (ih (i + 1) (c.1 + 1, c.2.1, c.2.2 + (l[i].1.2.1.length : Int)) (by omega) (by show 0 ≤ c.1 + 1 ∧ c.1 + 1 ≤ _; omega) (by show 0 ≤ c.2.1 ∧ c.2.1 ≤ _; omega) (by show 0 ≤ c.2.2 + (l[i].1.2.1.length : Int) ∧ c.2.2 + (l[i].1.2.1.length : Int) ≤ _; omega))
   dsimp only [run_q1o]
   unfold s_q1o_3 eat
   rw [br_pos (by omega), br_pos (by omega), Int.toNat_natCast, getD_of _ hi, br_eq c1, br_pos (by omega), br_pos (by omega), br_eq' (by omega), wr ((i : Int) + 1) (by omega) (by omega), wr (c.1 + 1) (by omega) (by omega), wr (c.2.2 + (l[i].1.2.1.length : Int)) (by omega) (by omega)]
   rfl
  ·by_cases c2 : l[i].1.1 = 2
   ·have e : lcntS (l[i] :: l.drop (i + 1)) c = lcntS (l.drop (i + 1)) (c.1, c.2.1 + 1, c.2.2) := by
     conv => lhs; unfold lcntS
     rw [if_neg c1, if_pos c2]
    rw [e]
    refine .step (fun m => ?_) (ih (i + 1) (c.1, c.2.1 + 1, c.2.2) (by omega) (by show 0 ≤ c.1 ∧ c.1 ≤ _; omega) (by show 0 ≤ c.2.1 + 1 ∧ c.2.1 + 1 ≤ _; omega) (by show 0 ≤ c.2.2 ∧ c.2.2 ≤ _; omega))
    dsimp only [run_q1o]
    unfold s_q1o_3 eat
    rw [br_pos (by omega), br_pos (by omega), Int.toNat_natCast, getD_of _ hi, br_eq' c1, br_pos (by omega), br_eq c2, wr ((i : Int) + 1) (by omega) (by omega), wr (c.2.1 + 1) (by omega) (by omega)]
    rfl
   ·have e : lcntS (l[i] :: l.drop (i + 1)) c = lcntS (l.drop (i + 1)) c := by
     conv => lhs; unfold lcntS
     rw [if_neg c1, if_neg c2]
    rw [e]
    refine .step (fun m => ?_) (ih (i + 1) c (by omega) (by omega) (by omega) (by omega))
    dsimp only [run_q1o]
    unfold s_q1o_3 eat
    rw [br_pos (by omega), br_pos (by omega), Int.toNat_natCast, getD_of _ hi, br_eq' c1, br_pos (by omega), br_eq' c2, wr ((i : Int) + 1) (by omega) (by omega)]
    rfl

theorem rcnt_eq {R : Type} {k K O : Int} {l : List Ent} (hl : l.length ≤ 1000) (hx : ∀ x ∈ l, x.1.2.1.length ≤ 1000000) (K0 : Int -> Int -> Int -> Option R) : l_q1o k K O l K0 = K0 (lcntS l (0, 0, 0)).1 (lcntS l (0, 0, 0)).2.1 (lcntS l (0, 0, 0)).2.2 := by
 unfold l_q1o
 refine evl_eq (.same (G := fun m => run_q1o K0 m 0 0 0 ((0 : Nat) : Int) k K O l) (fun m => rfl) ((rcnt_go hl hx K0 l.length 0 (0, 0, 0) (by omega) (by simp) (by simp) (by simp)).of_eq (by rw [List.drop_zero])))

abbrev LT_q1p := {R : Type} -> Int -> Int -> Int -> (List Ent) -> Int -> Int -> Int -> Int -> (List Int) -> (List Int) -> (Int -> Option R) -> Option R
def l_q1p {R : Type} (l l_1 l_2 : Int) (l_3 : List Ent) (m m_1 m_2 m_3 : Int) (m_4 m_5 : List Int) (K0 : Int -> Option R) : Option R :=
 bi (m != l) (K0 30) (bi (m_1 != l_1) (K0 1) (bi (m_2 != l_2) (K0 33) (K0 0)))

theorem alike1_eq {R : Type} {k K O k' K' O' N' : Int} {l : List Ent} {nx ou : List Int} (K0 : Int -> Option R) :
  l_q1p k K O l k' K' O' N' nx ou K0 = K0 (alikeS k K O k' K' O') := by
 unfold l_q1p alikeS
 by_cases c1 : k' = k
 ·rw [br_ne' c1, if_neg (by simpa using c1)]
  by_cases c2 : K' = K
  ·rw [br_ne' c2, if_neg (by simpa using c2)]
   by_cases c3 : O' = O
   ·rw [br_ne' c3, if_neg (by simpa using c3)]
   ·rw [br_ne c3, if_pos c3]
  ·rw [br_ne c2, if_pos c2]
 ·rw [br_ne c1, if_pos c1]

abbrev LT_q1q := {R : Type} -> Int -> Int -> Int -> Int -> (List Int) -> (List Int) -> Int -> (List Int) -> (Int -> Int -> (List Int) -> Option R) -> Option R
abbrev GT_q1q_10 (R : Type) := Int -> (List Int) -> Int -> Int -> Int -> Int -> Int -> Int -> (List Int) -> (List Int) -> (List Int) -> Option R
abbrev gs_q1q_10 (l_qf : LT_qf) (l_qs : LT_qs) {R : Type} (g148_10 : GT_q1q_10 R) (K0 : Int -> Int -> (List Int) -> Option R) (s : Int) (x42 : List Int) (x43 x44 o0 o0_1 o0_2 o0_3 : Int) (o0_4 o0_5 o1 : List Int) : Option R :=
 bi (decide (x44 < x43)) (bi (decide (0 ≤ x44 ∧ x44 < ((x42.length : Nat) : Int))) (bi (o0 == 2) (bi (decide (0 ≤ (IntKind.i64.wrap ((IntKind.i64.wrap (s * o0_1)) + (x42.getD x44.toNat 0))) ∧ (IntKind.i64.wrap ((IntKind.i64.wrap (s * o0_1)) + (x42.getD x44.toNat 0))) < ((o0_5.length : Nat) : Int)))
 (bi (decide ((o1.length + [o0_5.getD ((IntKind.i64.wrap ((IntKind.i64.wrap (s * o0_1)) + (x42.getD x44.toNat 0))).toNat) 0].length) * 8 ≤ lim)) (bi (decide (0 ≤ (IntKind.i64.wrap ((IntKind.i64.wrap (s * o0_1)) + (x42.getD x44.toNat 0))) ∧ (IntKind.i64.wrap ((IntKind.i64.wrap (s * o0_1)) + (x42.getD x44.toNat 0))) < ((o0_4.length : Nat) : Int)))
 (g148_10 (o0_4.getD ((IntKind.i64.wrap ((IntKind.i64.wrap (s * o0_1)) + (x42.getD x44.toNat 0))).toNat) 0) x42 x43 (IntKind.i64.wrap (x44 + 1)) o0 o0_1 o0_2 o0_3 o0_4 o0_5 (o1 ++ [o0_5.getD ((IntKind.i64.wrap ((IntKind.i64.wrap (s * o0_1)) + (x42.getD x44.toNat 0))).toNat) 0])) none) none) none)
 (bi (decide (0 ≤ (IntKind.i64.wrap ((IntKind.i64.wrap (s * o0_1)) + (x42.getD x44.toNat 0))) ∧ (IntKind.i64.wrap ((IntKind.i64.wrap (s * o0_1)) + (x42.getD x44.toNat 0))) < ((o0_4.length : Nat) : Int))) (g148_10 (o0_4.getD ((IntKind.i64.wrap ((IntKind.i64.wrap (s * o0_1)) + (x42.getD x44.toNat 0))).toNat) 0) x42 x43 (IntKind.i64.wrap (x44 + 1)) o0 o0_1 o0_2 o0_3 o0_4 o0_5 o1) none)) none)
 (bi (o0 == 1) (bi (decide (0 ≤ s ∧ s < ((o0_5.length : Nat) : Int))) (K0 s 0 [o0_5.getD s.toNat 0]) none) (K0 s 0 o1))

def s_q1q_10 {R : Type} := @gs_q1q_10 @l_qf @l_qs R

abbrev ge_q1q (l_qf : LT_qf) (l_qs : LT_qs) {R : Type} (g148_10 : GT_q1q_10 R) (K0 : Int -> Int -> (List Int) -> Option R) (m m_1 m_2 m_3 : Int) (m_4 m_5 : List Int) (s : Int) (w : List Int) : Option R :=
 l_qs m m_1 m_2 m_3 m_4 m_5 (fun r1 r2 => bi (r2 != 0) (K0 0 r2 ([] : List Int)) (bi (decide (s < 0)) (K0 0 32 ([] : List Int)) (bi (decide (s ≥ m_3)) (K0 0 32 ([] : List Int)) (l_qf w m_1 (fun r3 r4 => bi (r4 != 0) (K0 0 r4 ([] : List Int)) (g148_10 s w (w.length : Int) 0 m m_1 m_2 m_3 m_4 m_5 ([] : List Int)))))))

def e_q1q {R : Type} := @ge_q1q @l_qf @l_qs R

def run_q1q {R : Type} (K0 : Int -> Int -> (List Int) -> Option R) : Nat -> GT_q1q_10 R
 |0 => fun _ _ _ _ _ _ _ _ _ _ _ => none
 |n + 1 => s_q1q_10 (run_q1q K0 n) K0

def l_q1q {R : Type} (k K O N : Int) (nx ou : List Int) (s : Int) (w : List Int) (K0 : Int -> Int -> List Int -> Option R) : Option R :=
 bi (decide (okL nx ∧ okL ou)) (K0 (fromS k K O N nx ou s w).1 (fromS k K O N nx ou s w).2.1 (fromS k K O N nx ou s w).2.2) none

theorem ok_q1q {R : Type} (k K O N : Int) (nx ou : List Int) (s : Int) (w : List Int) (K0 : Int -> Int -> List Int -> Option R) {r : R} (h : l_q1q k K O N nx ou s w K0 = some r) :
  ∃ fuel, e_q1q (run_q1q K0 fuel) K0 k K O N nx ou s w = some r := by
 unfold l_q1q at h
 rcases bi_some h with ⟨hs, h⟩ | ⟨_, h⟩
 ·obtain ⟨h1, h2⟩ := of_decide_eq_true hs
  refine ⟨w.length + 1, ?_⟩
  rw [← h]
  unfold e_q1q ge_q1q fromS
  rw [check_eq _ _ _ _ _ _ h1.1 h2.1, checkS_eq h1 h2]
  by_cases hc : (checkR k K O N nx ou).2 = 0
  ·have F := checkR_fine.1 hc
   rw [br_ne' hc, if_neg (by simpa using hc)]
   by_cases hs1 : s < 0
   ·rw [br_pos hs1, if_pos (.inl hs1)]
   rw [br_neg hs1]
   by_cases hs2 : s ≥ N
   ·rw [br_pos hs2, if_pos (.inr hs2)]
   rw [br_neg hs2, if_neg (by omega)]
   unfold l_qf
   dsimp only
   by_cases hw : (wordS K w).2 = 0
   ·rw [br_ne' hw, if_neg (by simpa using hw)]
    obtain ⟨_, hwl, hwx⟩ := wordS_zero.1 hw
    have hK := F.fK
    have hN := F.fN
    have hNK := mulK ⟨hN, hK⟩
    have hnx := F.fnx
    refine (fold_all (F := fun m i (t : Int × List Int) => run_q1q K0 m t.1 w (w.length : Int) (i : Int) k K O N nx ou t.2) (f := goS k K nx ou) (l := w)
     (B := fun t => K0 t.1 0 (if k = 1 then [ou.getD t.1.toNat 0] else t.2)) (fun i t => (0 ≤ t.1 ∧ t.1 < N) ∧ t.2.length ≤ i) ?_ ?_ (s, []) ⟨by omega, by simp⟩).trans ?_
    ·intro m t ht
     show s_q1q_10 _ _ _ _ _ _ _ _ _ _ _ _ _ = _
     unfold s_q1q_10 gs_q1q_10
     rw [br_neg (by omega)]
     by_cases hk : k = 1
     ·have := F.fou1 hk
      rw [br_eq hk, br_pos (by omega), if_pos hk]
     ·rw [br_eq' hk, if_neg hk]
    ·intro m i t hi ht
     have hx := hwx _ (List.getElem_mem hi)
     have hin := idx_in ht.1 hx
     have hg : (if k = 2 then t.2 ++ [ou.getD (t.1 * K + w[i]).toNat 0] else t.2).length ≤ i + 1 := by
      split
      ·simp; omega
      ·omega
     refine ⟨⟨goS_in F ht.1 hx, hg⟩, ?_⟩
     show s_q1q_10 (run_q1q K0 m) _ _ _ _ _ _ _ _ _ _ _ _ = run_q1q K0 m (nx.getD (t.1 * K + w[i]).toNat 0) w (w.length : Int) ((i + 1 : Nat) : Int) k K O N nx ou (if k = 2 then t.2 ++ [ou.getD (t.1 * K + w[i]).toNat 0] else t.2)
     unfold s_q1q_10 gs_q1q_10
     rw [br_pos (by omega), br_pos (by omega), Int.toNat_natCast, getD_of 0 hi, wr (t.1 * K) (by omega) (by omega), wr (t.1 * K + w[i]) (by omega) (by omega), wr ((i : Int) + 1) (by omega) (by omega)]
     by_cases hk : k = 2
     ·have := F.fou2 hk
      rw [br_eq hk, br_pos (by omega), br_pos (by simp [lim]; omega), br_pos (by omega), if_pos hk]
      rfl
     ·rw [br_eq' hk, br_pos (by omega), if_neg hk]
      rfl
    ·unfold endS
     rfl
   ·rw [br_ne hw, if_pos (by simpa using hw)]
  ·rw [br_ne hc, if_pos (by simpa using hc)]
 ·cases h

theorem from_eq {R : Type} {k K O N : Int} {nx ou : List Int} {s : Int} {w : List Int} (h1 : okL nx) (h2 : okL ou) (K0 : Int -> Int -> List Int -> Option R) :
  l_q1q k K O N nx ou s w K0 = K0 (fromS k K O N nx ou s w).1 (fromS k K O N nx ou s w).2.1 (fromS k K O N nx ou s w).2.2 := by
 unfold l_q1q
 rw [br_pos ⟨h1, h2⟩]

abbrev LT_q1r := {R : Type} -> Int -> Int -> Int -> Int -> (List Int) -> (List Int) -> (List Int) -> (Int -> (List Int) -> Option R) -> Option R
abbrev gl_q1r (l_q1q : LT_q1q) {R : Type} (m m_1 m_2 m_3 : Int) (m_4 m_5 w : List Int) (K0 : Int -> (List Int) -> Option R) : Option R :=
 l_q1q m m_1 m_2 m_3 m_4 m_5 0 w (fun r1 r2 r3 => K0 r2 r3)

def l_q1r {R : Type} := @gl_q1r @l_q1q R

abbrev LT_q1s := {R : Type} -> (List Int) -> (List Int) -> (Bool -> Option R) -> Option R
abbrev GT_q1s_4 (R : Type) := (List Int) -> (List Int) -> Int -> Int -> Option R
def s_q1s_4 {R : Type} (g147_4 : GT_q1s_4 R) (K0 : Bool -> Option R) (s1 s2 : List Int) (x12 x13 : Int) : Option R :=
 bi (decide (x13 < x12)) (bi (decide (0 ≤ x13 ∧ x13 < ((s1.length : Nat) : Int))) (bi (decide (0 ≤ x13 ∧ x13 < ((s2.length : Nat) : Int))) (bi ((s1.getD x13.toNat 0) != (s2.getD x13.toNat 0)) (K0 false) (g147_4 s1 s2 x12 (IntKind.i64.wrap (x13 + 1)))) none) none) (K0 true)

def e_q1s {R : Type} (g147_4 : GT_q1s_4 R) (K0 : Bool -> Option R) (s1 s2 : List Int) : Option R :=
 bi ((s1.length : Int) != (s2.length : Int)) (K0 false) (g147_4 s1 s2 (s1.length : Int) 0)

def run_q1s {R : Type} (K0 : Bool -> Option R) : Nat -> GT_q1s_4 R
 |0 => fun _ _ _ _ => none
 |n + 1 => s_q1s_4 (run_q1s K0 n) K0

def l_q1s {R : Type} (s1 s2 : List Int) (K0 : Bool -> Option R) : Option R := evl fun fuel => e_q1s (run_q1s K0 fuel) K0 s1 s2

theorem equalL_eq {R : Type} {a b : List Int} (h : short a) (K0 : Bool -> Option R) : l_q1s a b K0 = K0 (decide (a = b)) := by
 have hs : a.length < 4611686018427387904 := h
 unfold l_q1s
 refine evl_eq ?_
 by_cases hl : a.length = b.length
 ·have key : ∀ (d i : Nat), i + d = a.length -> a.take i = b.take i -> Reach (fun m => run_q1s K0 m a b (a.length : Int) (i : Int)) (K0 (decide (a = b))) := by
   intro d
   induction d with
   |zero =>
    intro i hi ht
    refine .now fun m => ?_
    dsimp only [run_q1s]
    unfold s_q1s_4
    rw [br_neg (by omega)]
    rw [List.take_of_length_le (by omega), List.take_of_length_le (by omega)] at ht
    simp [ht]
   |succ d ih =>
    intro i hi ht
    have hi1 : i < a.length := by omega
    have hi2 : i < b.length := by omega
    by_cases he : a[i] = b[i]
    ·refine .step (fun m => ?_) (ih (i + 1) (by omega) ?_)
     ·dsimp only [run_q1s]
      unfold s_q1s_4
      rw [br_pos (by omega), br_pos (by omega), br_pos (by omega), Int.toNat_natCast, getD_of 0 hi1, getD_of 0 hi2, br_ne' he, wr _ (by omega) (by omega)]
      rfl
     ·rw [List.take_add_one, List.take_add_one, ht, List.getElem?_eq_getElem hi1, List.getElem?_eq_getElem hi2, he]
    ·refine .now fun m => ?_
     dsimp only [run_q1s]
     unfold s_q1s_4
     rw [br_pos (by omega), br_pos (by omega), br_pos (by omega), Int.toNat_natCast, getD_of 0 hi1, getD_of 0 hi2, br_ne he]
     have : a ≠ b := fun e => he (by subst e; rfl)
     simp [this]
  refine .same (fun m => ?_) (key a.length 0 (by omega) (by simp))
  unfold e_q1s
  rw [br_ne' (by omega)]
  rfl
 ·refine .now fun m => ?_
  unfold e_q1s
  rw [br_ne (by omega)]
  have : a ≠ b := fun e => hl (by rw [e])
  simp [this]

abbrev LT_q1t := {R : Type} -> Int -> (List Int) -> Int -> Int -> Int -> Int -> (List Int) -> (List Int) -> Int -> (List Int) -> (List Int) -> Int -> Int -> Int -> Int -> (List Int) -> (List Int) -> (Bool -> Option R) -> Option R
abbrev gl_q1t (l_q1s : LT_q1s) (l_q1r : LT_q1r) {R : Type} (r : Int) (r_1 : List Int) (r_2 r_3 r_4 r_5 : Int) (r_6 r_7 : List Int) (r_8 : Int) (r_9 r_10 : List Int) (m m_1 m_2 m_3 : Int) (m_4 m_5 : List Int) (K0 : Bool -> Option R) : Option R :=
 l_q1r m m_1 m_2 m_3 m_4 m_5 r_1 (fun r1 r2 => l_q1s r2 r_9 (fun r3 => K0 r3))

def l_q1t {R : Type} := @gl_q1t @l_q1s @l_q1r R

theorem atr_eq {R : Type} {k K O N : Int} {nx ou : List Int} (o1 : okL nx) (o2 : okL ou) (q : Int) (w : List Int) (x1 x2 x3 x4 : Int) (x5 x6 : List Int) (a : Int) (o v : List Int) (K0 : Bool -> Option R) :
  l_q1t q w x1 x2 x3 x4 x5 x6 a o v k K O N nx ou K0 = K0 (askTr k K O N nx ou w o) := by
 unfold l_q1t gl_q1t l_q1r gl_q1r askTr
 rw [from_eq o1 o2]
 try dsimp only
 rw [equalL_eq (fromS_sh ..)]

abbrev LT_q1u := {R : Type} -> Int -> Int -> Int -> Int -> (List Int) -> (List Int) -> Int -> Int -> Int -> Int -> (List Int) -> (List Int) -> (Int -> Option R) -> Option R
abbrev GT_q1u_2 (R : Type) := Int -> Int -> Int -> Int -> Int -> Int -> (List Int) -> (List Int) -> Int -> Int -> Int -> Int -> (List Int) -> (List Int) -> (List (Int × (Int × (Int × (Int × (List Int × List Int)))))) -> Option R
abbrev gs_q1u_2 (l_qs : LT_qs) {R : Type} (g164_2 : GT_q1u_2 R) (K0 : Int -> Option R) (x12 x13 o0 o0_1 o0_2 o0_3 : Int) (o0_4 o0_5 : List Int) (o1 o1_1 o1_2 o1_3 : Int) (o1_4 o1_5 : List Int) (o2 : List (Int × (Int × (Int × (Int × (List Int × List Int)))))) : Option R :=
 bi (decide (x13 < x12)) (bi (decide (0 ≤ x13 ∧ x13 < ((o2.length : Nat) : Int)))
 (l_qs ((o2.getD x13.toNat (0, (0, (0, (0, ([], [])))))).1) (((o2.getD x13.toNat (0, (0, (0, (0, ([], [])))))).2).1) ((((o2.getD x13.toNat (0, (0, (0, (0, ([], [])))))).2).2).1) (((((o2.getD x13.toNat (0, (0, (0, (0, ([], [])))))).2).2).2).1) ((((((o2.getD x13.toNat (0, (0, (0, (0, ([], [])))))).2).2).2).2).1) ((((((o2.getD x13.toNat (0, (0, (0, (0, ([], [])))))).2).2).2).2).2)
 (fun r1 r2 => bi (r2 != 0) (K0 r2) (g164_2 x12 (IntKind.i64.wrap (x13 + 1)) o0 o0_1 o0_2 o0_3 o0_4 o0_5 o1 o1_1 o1_2 o1_3 o1_4 o1_5 o2))) none) (bi (o0 != o1) (K0 30) (bi (o0_1 != o1_1) (K0 1) (bi (o0_2 != o1_2) (K0 33) (K0 0))))

def s_q1u_2 {R : Type} := @gs_q1u_2 @l_qs R

abbrev ge_q1u (l_qs : LT_qs) {R : Type} (g164_2 : GT_q1u_2 R) (K0 : Int -> Option R) (a a_1 a_2 a_3 : Int) (a_4 a_5 : List Int) (b b_1 b_2 b_3 : Int) (b_4 b_5 : List Int) : Option R :=
 g164_2 ([(a, (a_1, (a_2, (a_3, (a_4, a_5))))), (b, (b_1, (b_2, (b_3, (b_4, b_5)))))].length : Int) 0 a a_1 a_2 a_3 a_4 a_5 b b_1 b_2 b_3 b_4 b_5 [(a, (a_1, (a_2, (a_3, (a_4, a_5))))), (b, (b_1, (b_2, (b_3, (b_4, b_5)))))]

def e_q1u {R : Type} := @ge_q1u @l_qs R

def run_q1u {R : Type} (K0 : Int -> Option R) : Nat -> GT_q1u_2 R
 |0 => fun _ _ _ _ _ _ _ _ _ _ _ _ _ _ _ => none
 |n + 1 => s_q1u_2 (run_q1u K0 n) K0

def l_q1u {R : Type} (a : Int) (a_1 : Int) (a_2 : Int) (a_3 : Int) (a_4 : List Int) (a_5 : List Int) (b : Int) (b_1 : Int) (b_2 : Int) (b_3 : Int) (b_4 : List Int) (b_5 : List Int) (K0 : Int -> Option R) : Option R :=
 bi (decide ((short a_4 ∧ short a_5) ∧ short b_4 ∧ short b_5)) (K0 (fitS a a_1 a_2 a_3 a_4 a_5 b b_1 b_2 b_3 b_4 b_5)) none

theorem two0 {α : Type} (x y d : α) : [x, y].getD (0 : Int).toNat d = x := rfl
theorem two1 {α : Type} (x y d : α) : [x, y].getD (0 + 1 : Int).toNat d = y := rfl

theorem ok_q1u {R : Type} (a : Int) (a_1 : Int) (a_2 : Int) (a_3 : Int) (a_4 : List Int) (a_5 : List Int) (b : Int) (b_1 : Int) (b_2 : Int) (b_3 : Int) (b_4 : List Int) (b_5 : List Int) (K0 : Int -> Option R) {r : R} (h : l_q1u a a_1 a_2 a_3 a_4 a_5 b b_1 b_2 b_3 b_4 b_5 K0 = some r) : ∃ fuel, e_q1u (run_q1u K0 fuel) K0 a a_1 a_2 a_3 a_4 a_5 b b_1 b_2 b_3 b_4 b_5 = some r := by
 unfold l_q1u at h
 rcases bi_some h with ⟨hs, h⟩ | ⟨_, h⟩
 ·obtain ⟨⟨h1, h2⟩, h3, h4⟩ := of_decide_eq_true hs
  refine ⟨3, ?_⟩
  rw [← h]
  unfold e_q1u ge_q1u fitS
  show s_q1u_2 (run_q1u K0 2) _ _ _ _ _ _ _ _ _ _ _ _ _ _ _ _ = _
  unfold s_q1u_2 gs_q1u_2
  rw [br_pos (by simp), br_pos (by simp)]
  simp only [two0]
  rw [check_eq _ _ _ _ _ _ h1 h2]
  by_cases c1 : (checkS a a_1 a_2 a_3 a_4 a_5).2 = 0
  ·rw [br_ne' c1, if_neg (by simpa using c1), wr _ (by omega) (by omega)]
   show s_q1u_2 (run_q1u K0 1) _ _ _ _ _ _ _ _ _ _ _ _ _ _ _ _ = _
   unfold s_q1u_2 gs_q1u_2
   rw [br_pos (by simp), br_pos (by simp)]
   simp only [two1]
   rw [check_eq _ _ _ _ _ _ h3 h4]
   by_cases c2 : (checkS b b_1 b_2 b_3 b_4 b_5).2 = 0
   ·rw [br_ne' c2, if_neg (by simpa using c2), wr _ (by omega) (by omega)]
    show s_q1u_2 (run_q1u K0 0) _ _ _ _ _ _ _ _ _ _ _ _ _ _ _ _ = _
    unfold s_q1u_2 gs_q1u_2
    rw [br_neg (by simp)]
    simp only [br_if, bne_iff_ne, ne_eq]
    repeat' (refine ite_l (fun _ => ?_) (fun _ => ?_))
    all_goals
     refine congrArg K0 ?_
     repeat' (refine ite_r (fun _ => ?_) (fun _ => ?_))
     all_goals omega
   ·rw [br_ne c2, if_pos (by simpa using c2)]
  ·rw [br_ne c1, if_pos (by simpa using c1)]
 ·cases h

theorem fit_eq {R : Type} {k K O N : Int} {nx ou : List Int} {k' K' O' N' : Int} {nx' ou' : List Int} (h1 : okL nx) (h2 : okL ou) (h3 : okL nx') (h4 : okL ou') (K0 : Int -> Option R) :
  l_q1u k K O N nx ou k' K' O' N' nx' ou' K0 = K0 (fitS k K O N nx ou k' K' O' N' nx' ou') := by
 unfold l_q1u
 rw [br_pos ⟨⟨h1.1, h2.1⟩, h3.1, h4.1⟩]

abbrev LT_q1v := {R : Type} -> (List Int) -> ((List Int) -> Option R) -> Option R
abbrev GT_q1v_1 (R : Type) := Int -> Int -> (List Int) -> Option R
def s_q1v_1 {R : Type} (g171_1 : GT_q1v_1 R) (K0 : (List Int) -> Option R) (i j : Int) (o0 : List Int) : Option R :=
 bi (decide (i < j)) (bi (decide (0 ≤ j ∧ j < ((o0.length : Nat) : Int))) (bi (decide (0 ≤ i ∧ i < ((o0.length : Nat) : Int))) (bi (decide (0 ≤ i ∧ i < ((o0.length : Nat) : Int))) (bi (decide (0 ≤ j ∧ j < (((o0.set i.toNat (o0.getD j.toNat 0)).length : Nat) : Int))) (g171_1 (IntKind.i64.wrap (i + 1)) (IntKind.i64.wrap (j - 1)) ((o0.set i.toNat (o0.getD j.toNat 0)).set j.toNat (o0.getD i.toNat 0)))
 none) none) none) none) (K0 o0)

def e_q1v {R : Type} (g171_1 : GT_q1v_1 R) (K0 : (List Int) -> Option R) (o0 : List Int) : Option R :=
 g171_1 0 (IntKind.i64.wrap ((o0.length : Int) - 1)) o0

def run_q1v {R : Type} (K0 : (List Int) -> Option R) : Nat -> GT_q1v_1 R
 |0 => fun _ _ _ => none
 |n + 1 => s_q1v_1 (run_q1v K0 n) K0

def l_q1v {R : Type} (o0 : List Int) (K0 : (List Int) -> Option R) : Option R := bi (decide (short o0)) (K0 o0.reverse) none

/-- Both ends turned, up to a place. -/
def revA (w : List Int) (a : Nat) : List Int := (List.range w.length).map fun t => if t < a ∨ w.length - a ≤ t then w.getD (w.length - 1 - t) 0 else w.getD t 0

theorem revA_len (w : List Int) (a : Nat) : (revA w a).length = w.length := by simp [revA]
theorem revA_get (w : List Int) (a t : Nat) (h : t < w.length) : (revA w a).getD t 0 = if t < a ∨ w.length - a ≤ t then w.getD (w.length - 1 - t) 0 else w.getD t 0 := by
 unfold revA
 rw [getD_of 0 (by simpa using h), List.getElem_map, List.getElem_range]
theorem revA_ext {w u : List Int} {a : Nat} (hl : u.length = w.length) (h : ∀ t, t < w.length -> u.getD t 0 = if t < a ∨ w.length - a ≤ t then w.getD (w.length - 1 - t) 0 else w.getD t 0) : u = revA w a := by
 refine List.ext_getElem (by rw [hl, revA_len]) fun t h1 h2 => ?_
 have e1 := h t (by omega)
 rw [getD_of 0 h1] at e1
 rw [e1, ← getD_of 0 h2, revA_get w a t (by omega)]

theorem getD_set (l : List Int) (i t : Nat) (x : Int) : (l.set i x).getD t 0 = if i = t ∧ i < l.length then x else l.getD t 0 := by
 rw [List.getD_eq_getElem?_getD, List.getElem?_set, List.getD_eq_getElem?_getD]
 by_cases h : i = t
 ·subst h
  by_cases h2 : i < l.length
  ·simp [h2]
  ·simp [h2]
 ·simp [h]

theorem ok_q1v {R : Type} (o0 : List Int) (K0 : (List Int) -> Option R) {r : R} (h : l_q1v o0 K0 = some r) : ∃ fuel, e_q1v (run_q1v K0 fuel) K0 o0 = some r := by
 unfold l_q1v at h
 rcases bi_some h with ⟨hs, h⟩ | ⟨_, h⟩
 ·have hs : o0.length < 4611686018427387904 := of_decide_eq_true hs
  refine ⟨o0.length + 1, ?_⟩
  rw [← h]
  have key : ∀ (d a : Nat), a + d = o0.length -> run_q1v K0 (d + 1) (a : Int) ((o0.length : Int) - 1 - (a : Int)) (revA o0 a) = K0 o0.reverse := by
   have fin : ∀ a : Nat, o0.length ≤ 2 * a + 1 -> revA o0 a = o0.reverse := by
    intro a ha
    symm
    refine revA_ext (by simp) fun t ht => ?_
    have e : o0.reverse.getD t 0 = o0.getD (o0.length - 1 - t) 0 := by
     rw [getD_of 0 (by simpa using ht), List.getElem_reverse, getD_of 0 (by omega)]
    rw [e]
    split
    ·rfl
    ·have : o0.length - 1 - t = t := by omega
     rw [this]
   intro d
   induction d with
   |zero =>
    intro a ha
    show s_q1v_1 _ _ _ _ _ = _
    unfold s_q1v_1
    rw [br_neg (by omega), fin a (by omega)]
   |succ d ih =>
    intro a ha
    show s_q1v_1 _ _ _ _ _ = _
    unfold s_q1v_1
    by_cases c : (a : Int) < (o0.length : Int) - 1 - (a : Int)
    ·have e1 : ((o0.length : Int) - 1 - (a : Int)).toNat = o0.length - 1 - a := by omega
     rw [br_pos c, revA_len, List.length_set, revA_len, br_pos (by omega), br_pos (by omega), br_pos (by omega), br_pos (by omega), wr _ (by omega) (by omega), wr _ (by omega) (by omega), Int.toNat_natCast, e1]
     have e2 : ((revA o0 a).set a ((revA o0 a).getD (o0.length - 1 - a) 0)).set (o0.length - 1 - a) ((revA o0 a).getD a 0) = revA o0 (a + 1) := by
      refine revA_ext (by simp [revA_len]) fun t ht => ?_
      rw [getD_set, getD_set, List.length_set, revA_len, revA_get _ _ _ ht, revA_get _ _ _ (show a < o0.length by omega), revA_get _ _ _ (show o0.length - 1 - a < o0.length by omega)]
      by_cases c1 : o0.length - 1 - a = t
      ·rw [if_pos ⟨c1, by omega⟩, if_neg (by omega), if_pos (by omega)]
       congr 1
       omega
      ·rw [if_neg (by omega)]
       by_cases c2 : a = t
       ·rw [if_pos ⟨c2, by omega⟩, if_neg (by omega), if_pos (by omega), c2]
       ·rw [if_neg (by omega)]
        by_cases c3 : t < a ∨ o0.length - a ≤ t
        ·rw [if_pos c3, if_pos (by omega)]
        ·rw [if_neg c3, if_neg (by omega)]
     rw [e2]
     have e3 : (o0.length : Int) - 1 - (a : Int) - 1 = (o0.length : Int) - 1 - ((a + 1 : Nat) : Int) := by omega
     rw [e3]
     exact ih (a + 1) (by omega)
    ·rw [br_neg c, fin a (by omega)]
  have e0 : revA o0 0 = o0 := by
   symm
   refine revA_ext rfl fun t ht => ?_
   rw [if_neg (by omega)]
  have := key o0.length 0 (by omega)
  rw [e0] at this
  unfold e_q1v
  rw [wr _ (by omega) (by omega)]
  simpa using this
 ·cases h

abbrev KT0_q1w (R : Type) := (List ((Int × Int) × ((Int × Int) × Int))) -> (List Int) -> Option R
abbrev LT_q1w := {R : Type} -> Int -> Int -> Int -> Int -> (List ((Int × Int) × ((Int × Int) × Int))) -> (KT0_q1w R) -> Option R
abbrev GT_q1w_2 (R : Type) := (List ((Int × Int) × ((Int × Int) × Int))) -> Int -> Int -> Int -> Int -> (List Int) -> Option R
abbrev gs_q1w_2 (l_q1v : LT_q1v) {R : Type} (g169_2 : GT_q1w_2 R) (K0 : KT0_q1w R) (o0 : List ((Int × Int) × ((Int × Int) × Int))) (o1 o1_1 o2 o2_1 : Int) (o3 : List Int) : Option R :=
 bi (!(eqS (.pr (.int .i64) (.int .i64)) (o2, o2_1) (o1, o1_1))) (bi (decide ((o3.length + [(mgetD (.pr (.int .i64) (.int .i64)) (.pr (.pr (.int .i64) (.int .i64)) (.int .i64)) o0 (o2, o2_1)).2].length) * 8 ≤ lim))
 (g169_2 o0 o1 o1_1 (((mgetD (.pr (.int .i64) (.int .i64)) (.pr (.pr (.int .i64) (.int .i64)) (.int .i64)) o0 (o2, o2_1)).1).1) (((mgetD (.pr (.int .i64) (.int .i64)) (.pr (.pr (.int .i64) (.int .i64)) (.int .i64)) o0 (o2, o2_1)).1).2) (o3 ++ [(mgetD (.pr (.int .i64) (.int .i64)) (.pr (.pr (.int .i64) (.int .i64)) (.int .i64)) o0 (o2, o2_1)).2])) none) (l_q1v o3 (fun r1 =>
 K0 o0 r1))

def s_q1w_2 {R : Type} := @gs_q1w_2 @l_q1v R

abbrev ge_q1w (l_q1v : LT_q1v) {R : Type} (g169_2 : GT_q1w_2 R) (K0 : KT0_q1w R) (start start_1 p p_1 : Int) (o0 : List ((Int × Int) × ((Int × Int) × Int))) : Option R :=
 g169_2 o0 start start_1 p p_1 ([] : List Int)

def e_q1w {R : Type} := @ge_q1w @l_q1v R

def run_q1w {R : Type} (K0 : KT0_q1w R) : Nat -> GT_q1w_2 R
 |0 => fun _ _ _ _ _ _ => none
 |n + 1 => s_q1w_2 (run_q1w K0 n) K0

def l_q1w {R : Type} (start : Int) (start_1 : Int) (p : Int) (p_1 : Int) (o0 : List ((Int × Int) × ((Int × Int) × Int))) (K0 : (List ((Int × Int) × ((Int × Int) × Int))) -> (List Int) -> Option R) : Option R :=
 bi (decide (o0.length ≤ 1000000000)) (match backF o0 (start, start_1) o0.length (p, p_1) with
  |some w => K0 o0 w
  |none => none) none

theorem back_run {R : Type} (o : Came) (s : Int × Int) (K0 : Came -> (List Int) -> Option R) : ∀ (n : Nat) (q : Int × Int) (w acc : List Int), backF o s n q = some w -> acc.length + n ≤ 1000000000 →
  Reach (fun m => run_q1w K0 m o s.1 s.2 q.1 q.2 acc) (K0 o (w ++ acc.reverse))
 |0, q, w, acc, h, _ => by cases h
 |n + 1, q, w, acc, h, hl => by
  unfold backF at h
  by_cases c : q = s
  ·rw [if_pos c] at h
   cases h
   refine .now fun m => ?_
   show s_q1w_2 _ _ _ _ _ _ _ _ = _
   unfold s_q1w_2 gs_q1w_2 l_q1v
   rw [show eqS (.pr (.int .i64) (.int .i64)) (q.1, q.2) (s.1, s.2) = decide (q = s) from eqP q s, decide_eq_true c, br_pos (show short acc by unfold short; omega)]
   rfl
  ·rw [if_neg c] at h
   cases hf : mfind (.pr (.int .i64) (.int .i64)) (.pr (.pr (.int .i64) (.int .i64)) (.int .i64)) q o with
   |none => rw [hf] at h; cases h
   |some v =>
    rw [hf] at h
    obtain ⟨p, x⟩ := v
    dsimp only at h
    cases hb : backF o s n p with
    |none => rw [hb] at h; cases h
    |some u =>
     rw [hb] at h
     cases h
     have ih := back_run o s K0 n p u (acc ++ [x]) hb (by simp; omega)
     rw [show u ++ [x] ++ acc.reverse = u ++ (acc ++ [x]).reverse by simp]
     refine .step (fun m => ?_) ih
     show s_q1w_2 _ _ _ _ _ _ _ _ = _
     unfold s_q1w_2 gs_q1w_2
     have e : mgetD (.pr (.int .i64) (.int .i64)) (.pr (.pr (.int .i64) (.int .i64)) (.int .i64)) o (q.1, q.2) = (p, x) := by
      unfold mgetD
      rw [show mfind (.pr (.int .i64) (.int .i64)) (.pr (.pr (.int .i64) (.int .i64)) (.int .i64)) (q.1, q.2) o = some (p, x) from hf]
      rfl
     rw [show eqS (.pr (.int .i64) (.int .i64)) (q.1, q.2) (s.1, s.2) = decide (q = s) from eqP q s, decide_eq_false c, e]
     rw [show (!false) = true from rfl, br_tt, br_pos (by
      show (acc.length + 1) * 8 ≤ 140737488355328
      omega)]

theorem ok_q1w {R : Type} (start : Int) (start_1 : Int) (p : Int) (p_1 : Int) (o0 : List ((Int × Int) × ((Int × Int) × Int))) (K0 : (List ((Int × Int) × ((Int × Int) × Int))) -> (List Int) -> Option R) {r : R} (h : l_q1w start start_1 p p_1 o0 K0 = some r) : ∃ fuel, e_q1w (run_q1w K0 fuel) K0 start start_1 p p_1 o0 = some r := by
 unfold l_q1w at h
 rcases bi_some h with ⟨hs, h⟩ | ⟨_, h⟩
 ·have hs := of_decide_eq_true hs
  cases hb : backF o0 (start, start_1) o0.length (p, p_1) with
  |none => rw [hb] at h; cases h
  |some w =>
   rw [hb] at h
   dsimp only at h
   rw [← h]
   obtain ⟨n, hn⟩ := (back_run o0 (start, start_1) K0 _ _ w [] hb (by simpa using hs)).get
   exact ⟨n, by simpa [e_q1w] using hn⟩
 ·cases h

theorem back_eq {R : Type} {s : Int × Int} {o : Came} {L : List PW} (W : Ways s o L) {e : PW} (he : e ∈ L) (hl : L.length ≤ 1000000000) (K0 : Came -> List Int -> Option R) :
  l_q1w s.1 s.2 e.1.1 e.1.2 o K0 = K0 o e.2 := by
 have hk : o.length = L.length := by simpa using congrArg List.length W.keys
 unfold l_q1w
 rw [br_pos (by omega), hk, show backF o (s.1, s.2) L.length (e.1.1, e.1.2) = some e.2 from W.back e he]

abbrev LT_q1x := {R : Type} -> Int -> Int -> Int -> Int -> (List Int) -> (List Int) -> Int -> Int -> Int -> Int -> (List Int) -> (List Int) -> Int -> Int -> (Bool -> (List Int) -> Option R) -> Option R
abbrev GT_q1x_9 (R : Type) := Int -> Int -> Int -> Int -> Int -> (List Int) -> (List Int) -> Int -> Int -> Int -> Int -> (List Int) -> (List Int) -> Int -> Int -> (List ((Int × Int) × ((Int × Int) × Int))) -> (List (Int × Int)) -> Int -> Int -> (List Int) -> Option R
abbrev GT_q1x_13 (R : Type) := Int -> Int -> Int -> Int -> Int -> Int -> Int -> (List Int) -> (List Int) -> Int -> Int -> Int -> Int -> (List Int) -> (List Int) -> Int -> Int -> (List ((Int × Int) × ((Int × Int) × Int))) -> (List (Int × Int)) -> Int -> Int -> (List Int) -> Int -> Int -> Option R
abbrev gs_q1x_9 (l_q1w : LT_q1w) {R : Type} (g165_9 : GT_q1x_9 R) (g165_13 : GT_q1x_13 R) (K0 : Bool -> (List Int) -> Option R) (i o0 o0_1 o0_2 o0_3 : Int) (o0_4 o0_5 : List Int) (o1 o1_1 o1_2 o1_3 : Int) (o1_4 o1_5 : List Int) (o2 o2_1 : Int) (o3 : List ((Int × Int) × ((Int × Int) × Int))) (o4 : List (Int × Int)) (o5 o5_1 : Int) (o6 : List Int) : Option R :=
 bi (i == (o4.length : Int)) (K0 false ([] : List Int)) (bi (decide (0 ≤ i ∧ i < ((o4.length : Nat) : Int))) (g165_13 i o0_1 0 o0 o0_1 o0_2 o0_3 o0_4 o0_5 o1 o1_1 o1_2 o1_3 o1_4 o1_5 o2 o2_1 o3 o4 o5 o5_1 o6 ((o4.getD i.toNat (0, 0)).1) ((o4.getD i.toNat (0, 0)).2)) none)

def s_q1x_9 {R : Type} := @gs_q1x_9 @l_q1w R

abbrev gs_q1x_13 (l_q1w : LT_q1w) {R : Type} (g165_9 : GT_q1x_9 R) (g165_13 : GT_q1x_13 R) (K0 : Bool -> (List Int) -> Option R) (i x55 x56 o0 o0_1 o0_2 o0_3 : Int) (o0_4 o0_5 : List Int) (o1 o1_1 o1_2 o1_3 : Int) (o1_4 o1_5 : List Int) (o2 o2_1 : Int) (o3 : List ((Int × Int) × ((Int × Int) × Int))) (o4 : List (Int × Int)) (o5 o5_1 : Int) (o6 : List Int) (o7 o7_1 : Int) : Option R :=
 bi (decide (x56 < x55)) (bi (decide (0 ≤ (IntKind.i64.wrap ((IntKind.i64.wrap (o7 * o0_1)) + x56)) ∧ (IntKind.i64.wrap ((IntKind.i64.wrap (o7 * o0_1)) + x56)) < ((o0_4.length : Nat) : Int))) (bi (decide (0 ≤ (IntKind.i64.wrap ((IntKind.i64.wrap (o7_1 * o1_1)) + x56)) ∧ (IntKind.i64.wrap ((IntKind.i64.wrap (o7_1 * o1_1)) + x56)) < ((o1_4.length : Nat) : Int))) (bi (o0 == 2)
 (bi (decide (0 ≤ (IntKind.i64.wrap ((IntKind.i64.wrap (o7 * o0_1)) + x56)) ∧ (IntKind.i64.wrap ((IntKind.i64.wrap (o7 * o0_1)) + x56)) < ((o0_5.length : Nat) : Int))) (bi (decide (0 ≤ (IntKind.i64.wrap ((IntKind.i64.wrap (o7_1 * o1_1)) + x56)) ∧ (IntKind.i64.wrap ((IntKind.i64.wrap (o7_1 * o1_1)) + x56)) < ((o1_5.length : Nat) : Int)))
 (bi ((o0_5.getD ((IntKind.i64.wrap ((IntKind.i64.wrap (o7 * o0_1)) + x56)).toNat) 0) != (o1_5.getD ((IntKind.i64.wrap ((IntKind.i64.wrap (o7_1 * o1_1)) + x56)).toNat) 0)) (l_q1w o2 o2_1 o7 o7_1 o3 (fun r1 r2 => bi (decide ((r2.length + [x56].length) * 8 ≤ lim)) (K0 true (r2 ++ [x56])) none))
 (bi (mhas (.pr (.int .i64) (.int .i64)) (.pr (.pr (.int .i64) (.int .i64)) (.int .i64)) o3 (o0_4.getD ((IntKind.i64.wrap ((IntKind.i64.wrap (o7 * o0_1)) + x56)).toNat) 0, o1_4.getD ((IntKind.i64.wrap ((IntKind.i64.wrap (o7_1 * o1_1)) + x56)).toNat) 0)) (g165_13 i x55 (IntKind.i64.wrap (x56 + 1)) o0 o0_1 o0_2 o0_3 o0_4 o0_5 o1 o1_1 o1_2 o1_3 o1_4 o1_5 o2 o2_1 o3 o4 o5 o5_1 o6 o7 o7_1)
 (bi (decide ((o4.length + [(o0_4.getD ((IntKind.i64.wrap ((IntKind.i64.wrap (o7 * o0_1)) + x56)).toNat) 0, o1_4.getD ((IntKind.i64.wrap ((IntKind.i64.wrap (o7_1 * o1_1)) + x56)).toNat) 0)].length) * 16 ≤ lim)) (bi (o0 == 1)
 (bi (decide (0 ≤ (o0_4.getD ((IntKind.i64.wrap ((IntKind.i64.wrap (o7 * o0_1)) + x56)).toNat) 0) ∧ (o0_4.getD ((IntKind.i64.wrap ((IntKind.i64.wrap (o7 * o0_1)) + x56)).toNat) 0) < ((o0_5.length : Nat) : Int)))
 (bi (decide (0 ≤ (o1_4.getD ((IntKind.i64.wrap ((IntKind.i64.wrap (o7_1 * o1_1)) + x56)).toNat) 0) ∧ (o1_4.getD ((IntKind.i64.wrap ((IntKind.i64.wrap (o7_1 * o1_1)) + x56)).toNat) 0) < ((o1_5.length : Nat) : Int)))
 (bi ((o0_5.getD ((o0_4.getD ((IntKind.i64.wrap ((IntKind.i64.wrap (o7 * o0_1)) + x56)).toNat) 0).toNat) 0) != (o1_5.getD ((o1_4.getD ((IntKind.i64.wrap ((IntKind.i64.wrap (o7_1 * o1_1)) + x56)).toNat) 0).toNat) 0))
 (l_q1w o2 o2_1 (o0_4.getD ((IntKind.i64.wrap ((IntKind.i64.wrap (o7 * o0_1)) + x56)).toNat) 0) (o1_4.getD ((IntKind.i64.wrap ((IntKind.i64.wrap (o7_1 * o1_1)) + x56)).toNat) 0) (mput (.pr (.int .i64) (.int .i64)) (.pr (.pr (.int .i64) (.int .i64)) (.int .i64)) (o0_4.getD ((IntKind.i64.wrap ((IntKind.i64.wrap (o7 * o0_1)) + x56)).toNat) 0, o1_4.getD ((IntKind.i64.wrap ((IntKind.i64.wrap (o7_1 * o1_1)) + x56)).toNat) 0) ((o7, o7_1), x56) o3)
 (fun r3 r4 => bi (decide ((r4.length + o6.length) * 8 ≤ lim)) (K0 true (r4 ++ o6)) none))
 (g165_13 i x55 (IntKind.i64.wrap (x56 + 1)) o0 o0_1 o0_2 o0_3 o0_4 o0_5 o1 o1_1 o1_2 o1_3 o1_4 o1_5 o2 o2_1 (mput (.pr (.int .i64) (.int .i64)) (.pr (.pr (.int .i64) (.int .i64)) (.int .i64)) (o0_4.getD ((IntKind.i64.wrap ((IntKind.i64.wrap (o7 * o0_1)) + x56)).toNat) 0, o1_4.getD ((IntKind.i64.wrap ((IntKind.i64.wrap (o7_1 * o1_1)) + x56)).toNat) 0) ((o7, o7_1), x56) o3) (o4 ++ [(o0_4.getD ((IntKind.i64.wrap ((IntKind.i64.wrap (o7 * o0_1)) + x56)).toNat) 0, o1_4.getD ((IntKind.i64.wrap ((IntKind.i64.wrap (o7_1 * o1_1)) + x56)).toNat) 0)]) o5 o5_1 o6 o7 o7_1))
 none) none)
 (g165_13 i x55 (IntKind.i64.wrap (x56 + 1)) o0 o0_1 o0_2 o0_3 o0_4 o0_5 o1 o1_1 o1_2 o1_3 o1_4 o1_5 o2 o2_1 (mput (.pr (.int .i64) (.int .i64)) (.pr (.pr (.int .i64) (.int .i64)) (.int .i64)) (o0_4.getD ((IntKind.i64.wrap ((IntKind.i64.wrap (o7 * o0_1)) + x56)).toNat) 0, o1_4.getD ((IntKind.i64.wrap ((IntKind.i64.wrap (o7_1 * o1_1)) + x56)).toNat) 0) ((o7, o7_1), x56) o3) (o4 ++ [(o0_4.getD ((IntKind.i64.wrap ((IntKind.i64.wrap (o7 * o0_1)) + x56)).toNat) 0, o1_4.getD ((IntKind.i64.wrap ((IntKind.i64.wrap (o7_1 * o1_1)) + x56)).toNat) 0)]) o5 o5_1 o6 o7 o7_1))
 none))) none) none) (bi (mhas (.pr (.int .i64) (.int .i64)) (.pr (.pr (.int .i64) (.int .i64)) (.int .i64)) o3 (o0_4.getD ((IntKind.i64.wrap ((IntKind.i64.wrap (o7 * o0_1)) + x56)).toNat) 0, o1_4.getD ((IntKind.i64.wrap ((IntKind.i64.wrap (o7_1 * o1_1)) + x56)).toNat) 0))
 (g165_13 i x55 (IntKind.i64.wrap (x56 + 1)) o0 o0_1 o0_2 o0_3 o0_4 o0_5 o1 o1_1 o1_2 o1_3 o1_4 o1_5 o2 o2_1 o3 o4 o5 o5_1 o6 o7 o7_1) (bi (decide ((o4.length + [(o0_4.getD ((IntKind.i64.wrap ((IntKind.i64.wrap (o7 * o0_1)) + x56)).toNat) 0, o1_4.getD ((IntKind.i64.wrap ((IntKind.i64.wrap (o7_1 * o1_1)) + x56)).toNat) 0)].length) * 16 ≤ lim)) (bi (o0 == 1)
 (bi (decide (0 ≤ (o0_4.getD ((IntKind.i64.wrap ((IntKind.i64.wrap (o7 * o0_1)) + x56)).toNat) 0) ∧ (o0_4.getD ((IntKind.i64.wrap ((IntKind.i64.wrap (o7 * o0_1)) + x56)).toNat) 0) < ((o0_5.length : Nat) : Int)))
 (bi (decide (0 ≤ (o1_4.getD ((IntKind.i64.wrap ((IntKind.i64.wrap (o7_1 * o1_1)) + x56)).toNat) 0) ∧ (o1_4.getD ((IntKind.i64.wrap ((IntKind.i64.wrap (o7_1 * o1_1)) + x56)).toNat) 0) < ((o1_5.length : Nat) : Int)))
 (bi ((o0_5.getD ((o0_4.getD ((IntKind.i64.wrap ((IntKind.i64.wrap (o7 * o0_1)) + x56)).toNat) 0).toNat) 0) != (o1_5.getD ((o1_4.getD ((IntKind.i64.wrap ((IntKind.i64.wrap (o7_1 * o1_1)) + x56)).toNat) 0).toNat) 0))
 (l_q1w o2 o2_1 (o0_4.getD ((IntKind.i64.wrap ((IntKind.i64.wrap (o7 * o0_1)) + x56)).toNat) 0) (o1_4.getD ((IntKind.i64.wrap ((IntKind.i64.wrap (o7_1 * o1_1)) + x56)).toNat) 0) (mput (.pr (.int .i64) (.int .i64)) (.pr (.pr (.int .i64) (.int .i64)) (.int .i64)) (o0_4.getD ((IntKind.i64.wrap ((IntKind.i64.wrap (o7 * o0_1)) + x56)).toNat) 0, o1_4.getD ((IntKind.i64.wrap ((IntKind.i64.wrap (o7_1 * o1_1)) + x56)).toNat) 0) ((o7, o7_1), x56) o3)
 (fun r5 r6 => bi (decide ((r6.length + o6.length) * 8 ≤ lim)) (K0 true (r6 ++ o6)) none))
 (g165_13 i x55 (IntKind.i64.wrap (x56 + 1)) o0 o0_1 o0_2 o0_3 o0_4 o0_5 o1 o1_1 o1_2 o1_3 o1_4 o1_5 o2 o2_1 (mput (.pr (.int .i64) (.int .i64)) (.pr (.pr (.int .i64) (.int .i64)) (.int .i64)) (o0_4.getD ((IntKind.i64.wrap ((IntKind.i64.wrap (o7 * o0_1)) + x56)).toNat) 0, o1_4.getD ((IntKind.i64.wrap ((IntKind.i64.wrap (o7_1 * o1_1)) + x56)).toNat) 0) ((o7, o7_1), x56) o3) (o4 ++ [(o0_4.getD ((IntKind.i64.wrap ((IntKind.i64.wrap (o7 * o0_1)) + x56)).toNat) 0, o1_4.getD ((IntKind.i64.wrap ((IntKind.i64.wrap (o7_1 * o1_1)) + x56)).toNat) 0)]) o5 o5_1 o6 o7 o7_1))
 none) none)
 (g165_13 i x55 (IntKind.i64.wrap (x56 + 1)) o0 o0_1 o0_2 o0_3 o0_4 o0_5 o1 o1_1 o1_2 o1_3 o1_4 o1_5 o2 o2_1 (mput (.pr (.int .i64) (.int .i64)) (.pr (.pr (.int .i64) (.int .i64)) (.int .i64)) (o0_4.getD ((IntKind.i64.wrap ((IntKind.i64.wrap (o7 * o0_1)) + x56)).toNat) 0, o1_4.getD ((IntKind.i64.wrap ((IntKind.i64.wrap (o7_1 * o1_1)) + x56)).toNat) 0) ((o7, o7_1), x56) o3) (o4 ++ [(o0_4.getD ((IntKind.i64.wrap ((IntKind.i64.wrap (o7 * o0_1)) + x56)).toNat) 0, o1_4.getD ((IntKind.i64.wrap ((IntKind.i64.wrap (o7_1 * o1_1)) + x56)).toNat) 0)]) o5 o5_1 o6 o7 o7_1))
 none))) none) none) (g165_9 (IntKind.i64.wrap (i + 1)) o0 o0_1 o0_2 o0_3 o0_4 o0_5 o1 o1_1 o1_2 o1_3 o1_4 o1_5 o2 o2_1 o3 o4 o5 o5_1 o6)

def s_q1x_13 {R : Type} := @gs_q1x_13 @l_q1w R

abbrev ge_q1x (l_q1w : LT_q1w) {R : Type} (g165_9 : GT_q1x_9 R) (g165_13 : GT_q1x_13 R) (K0 : Bool -> (List Int) -> Option R) (a a_1 a_2 a_3 : Int) (a_4 a_5 : List Int) (b b_1 b_2 b_3 : Int) (b_4 b_5 : List Int) (start start_1 : Int) : Option R :=
 bi (a == 1) (bi (decide (0 ≤ start ∧ start < ((a_5.length : Nat) : Int))) (bi (decide (0 ≤ start_1 ∧ start_1 < ((b_5.length : Nat) : Int))) (bi ((a_5.getD start.toNat 0) != (b_5.getD start_1.toNat 0)) (K0 true ([] : List Int))
 (g165_9 0 a a_1 a_2 a_3 a_4 a_5 b b_1 b_2 b_3 b_4 b_5 start start_1 (mput (.pr (.int .i64) (.int .i64)) (.pr (.pr (.int .i64) (.int .i64)) (.int .i64)) (start, start_1) ((0, 0), 0) ([] : List ((Int × Int) × ((Int × Int) × Int)))) [(start, start_1)] 0 0 ([] : List Int))) none) none)
 (g165_9 0 a a_1 a_2 a_3 a_4 a_5 b b_1 b_2 b_3 b_4 b_5 start start_1 (mput (.pr (.int .i64) (.int .i64)) (.pr (.pr (.int .i64) (.int .i64)) (.int .i64)) (start, start_1) ((0, 0), 0) ([] : List ((Int × Int) × ((Int × Int) × Int)))) [(start, start_1)] 0 0 ([] : List Int))

def e_q1x {R : Type} := @ge_q1x @l_q1w R

def run_q1x {R : Type} (K0 : Bool -> (List Int) -> Option R) : Nat -> (GT_q1x_9 R) × (GT_q1x_13 R)
 |0 => (fun _ _ _ _ _ _ _ _ _ _ _ _ _ _ _ _ _ _ _ _ => none, fun _ _ _ _ _ _ _ _ _ _ _ _ _ _ _ _ _ _ _ _ _ _ _ _ => none)
 |n + 1 => (fun r => (s_q1x_9 r.1 r.2 K0, s_q1x_13 r.1 r.2 K0)) (run_q1x K0 n)

def l_q1x {R : Type} (a : Int) (a_1 : Int) (a_2 : Int) (a_3 : Int) (a_4 : List Int) (a_5 : List Int) (b : Int) (b_1 : Int) (b_2 : Int) (b_3 : Int) (b_4 : List Int) (b_5 : List Int) (start : Int) (start_1 : Int) (K0 : Bool -> (List Int) -> Option R) : Option R :=
 bi (decide ((checkR a a_1 a_2 a_3 a_4 a_5).2 = 0 ∧ (checkR b b_1 b_2 b_3 b_4 b_5).2 = 0 ∧ a = b ∧ a_1 = b_1 ∧ (0 ≤ start ∧ start < a_3) ∧ (0 ≤ start_1 ∧ start_1 < b_3)))
  (K0 (searchS ⟨a, a_1, a_3, b_3, a_4, a_5, b_4, b_5⟩ (start, start_1)).1 (searchS ⟨a, a_1, a_3, b_3, a_4, a_5, b_4, b_5⟩ (start, start_1)).2) none

theorem rows_get (L : List PW) (i : Nat) : (L.map (·.1)).getD i (0, 0) = (L.getD i pw0).1 := by
 simp only [List.getD_eq_getElem?_getD, List.getElem?_map]
 cases L[i]? <;> rfl

theorem search_run {R : Type} {D : Duo} {O O' : Int} (A : Fine D.k D.K O D.N D.nx D.ou) (B : Fine D.k D.K O' D.M D.nx' D.ou') (s : Int × Int) (K0 : Bool -> List Int -> Option R) :
  ∀ (n i x : Nat) (L : List PW) (o : Came) (r : Bool × List Int), bfs D n i x L = some r -> Inv D s L -> Ways s o L -> i < L.length -> x ≤ D.K.toNat →
  Reach (fun m => (run_q1x K0 m).2 i D.K x D.k D.K O D.N D.nx D.ou D.k D.K O' D.M D.nx' D.ou' s.1 s.2 o (L.map (·.1)) 0 0 [] (L.getD i pw0).1.1 (L.getD i pw0).1.2) (K0 r.1 r.2)
 |0, _, _, _, _, _, h, _, _, _, _ => by cases h
 |n + 1, i, x, L, o, r, h, I, W, hi, hx => by
  have F : D.Fine := ⟨⟨O, A⟩, ⟨O', B⟩⟩
  have hK := A.fK
  have hNK := mulK ⟨A.fN, A.fK⟩
  have hMK := mulK ⟨B.fN, B.fK⟩
  have hNM := mul_most A.fN B.fN
  have hmost := I.most
  have hm : L.getD i pw0 ∈ L := getD_mem hi
  have hp := I.inn _ hm
  unfold bfs at h
  by_cases c : (x : Int) < D.K
  ·rw [if_pos c] at h
   have hx' : 0 ≤ (x : Int) ∧ (x : Int) < D.K := ⟨by omega, c⟩
   have i1 := idx_in hp.1 hx'
   have i2 := idx_in hp.2 hx'
   have f1 := A.fnx
   have f2 := B.fnx
   have hq := nxt_inn F hp hx'
   have hlen := I.len i hi
   have hrow : (L.map (·.1)).length = L.length := List.length_map _
   have key : ∀ m, (run_q1x K0 (m + 1)).2 i D.K x D.k D.K O D.N D.nx D.ou D.k D.K O' D.M D.nx' D.ou' s.1 s.2 o (L.map (·.1)) 0 0 [] (L.getD i pw0).1.1 (L.getD i pw0).1.2 =
     if D.sy (L.getD i pw0).1 x || D.st (D.nxt (L.getD i pw0).1 x) then K0 true ((L.getD i pw0).2 ++ [(x : Int)])
     else if known L (D.nxt (L.getD i pw0).1 x) then (run_q1x K0 m).2 i D.K ((x + 1 : Nat) : Int) D.k D.K O D.N D.nx D.ou D.k D.K O' D.M D.nx' D.ou' s.1 s.2 o (L.map (·.1)) 0 0 [] (L.getD i pw0).1.1 (L.getD i pw0).1.2
     else (run_q1x K0 m).2 i D.K ((x + 1 : Nat) : Int) D.k D.K O D.N D.nx D.ou D.k D.K O' D.M D.nx' D.ou' s.1 s.2 (o ++ [(D.nxt (L.getD i pw0).1 x, ((L.getD i pw0).1, (x : Int)))]) (L.map (·.1) ++ [D.nxt (L.getD i pw0).1 x]) 0 0 [] (L.getD i pw0).1.1 (L.getD i pw0).1.2 := by
    intro m
    show s_q1x_13 _ _ _ _ _ _ _ _ _ _ _ _ _ _ _ _ _ _ _ _ _ _ _ _ _ _ _ = _
    unfold s_q1x_13 gs_q1x_13
    try simp only [both_same, twice_eq, thrice_eq]
    generalize hP : L.getD i pw0 = P at *
    obtain ⟨⟨p1, p2⟩, w⟩ := P
    dsimp only at hp i1 i2 hq hlen ⊢
    rw [br_pos c, wr (p1 * D.K) (by omega) (by omega), wr (p2 * D.K) (by omega) (by omega), wr (p1 * D.K + x) (by omega) (by omega), wr (p2 * D.K + x) (by omega) (by omega), wr ((x : Int) + 1) (by omega) (by omega)]
    rw [br_pos (by omega), br_pos (by omega)]
    have hmh := mhas_known W (D.nxt (p1, p2) x)
    have hst : D.k = 2 -> ∀ q, D.st q = false := fun h q => by unfold Duo.st; rw [h]; rfl
    have hsy : D.k = 1 -> ∀ q y, D.sy q y = false := fun h q y => by unfold Duo.sy; rw [h]; rfl
    have hQ : D.nxt (p1, p2) x = (D.nx.getD (p1 * D.K + x).toNat 0, D.nx'.getD (p2 * D.K + x).toNat 0) := rfl
    rw [← hQ]
    rw [show D.nx.getD (p1 * D.K + x).toNat 0 = (D.nxt (p1, p2) x).1 from rfl, show D.nx'.getD (p2 * D.K + x).toNat 0 = (D.nxt (p1, p2) x).2 from rfl]
    generalize hq' : D.nxt (p1, p2) x = q at *
    rw [show mhas (.pr (.int .i64) (.int .i64)) (.pr (.pr (.int .i64) (.int .i64)) (.int .i64)) o q = known L q from hmh]
    have hpl : ((L.map (·.1)).length + [q].length) * 16 ≤ lim := by
     rw [hrow]
     show (L.length + 1) * 16 ≤ 140737488355328
     omega
    have hsame : known L q = true -> D.st q = false := fun hk => by
     obtain ⟨e, he, rfl⟩ := List.mem_map.1 (known_iff.1 hk)
     exact I.st e he
    have hnew : known L q = false -> mput (.pr (.int .i64) (.int .i64)) (.pr (.pr (.int .i64) (.int .i64)) (.int .i64)) q ((p1, p2), (x : Int)) o = o ++ [(q, ((p1, p2), (x : Int)))] := fun hk => mput_new (by
     rw [W.keys]
     intro hm
     rw [known_iff.2 hm] at hk
     cases hk)
    rcases A.fk with hk | hk
    ·rw [br_eq' (by omega), hsy hk, Bool.false_or]
     have g1 := A.fou1 hk
     have g2 := B.fou1 hk
     cases hkn : known L q with
     |true =>
      rw [br_tt, hsame hkn, if_neg (by decide), if_pos rfl]
      rfl
     |false =>
      rw [br_ff, br_pos hpl, br_eq hk, br_pos (by have := hq.1; omega), br_pos (by have := hq.2; omega), hnew hkn]
      have hs : D.st q = (D.ou.getD q.1.toNat 0 != D.ou'.getD q.2.toNat 0) := by unfold Duo.st; rw [hk]; rfl
      rw [← hs]
      cases hst' : D.st q with
      |true =>
       rw [br_tt, if_pos rfl]
       have Wp := W.push (e := ((p1, p2), w)) hm hkn x
       rw [show l_q1w s.1 s.2 q.1 q.2 (o ++ [(q, ((p1, p2), (x : Int)))]) _ = _ from back_eq Wp (e := (q, w ++ [(x : Int)])) (by simp) (by simp; omega) _]
       dsimp only
       rw [br_pos (by
        rw [List.length_append]
        show (w.length + 1 + 0) * 8 ≤ 140737488355328
        omega), List.append_nil]
      |false =>
       rw [br_ff, if_neg (by decide), if_neg (by decide)]
       rfl
    ·have g1 := A.fou2 hk
     have g2 := B.fou2 hk
     rw [br_eq hk, br_pos (by omega), br_pos (by omega), hst hk, Bool.or_false]
     have hs : D.sy (p1, p2) x = (D.ou.getD (p1 * D.K + x).toNat 0 != D.ou'.getD (p2 * D.K + x).toNat 0) := by unfold Duo.sy; rw [hk]; rfl
     rw [← hs]
     cases hsy' : D.sy (p1, p2) x with
     |true =>
      rw [br_tt, if_pos rfl, show l_q1w s.1 s.2 p1 p2 o _ = _ from back_eq W (e := ((p1, p2), w)) hm (by omega) _]
      dsimp only
      rw [br_pos (by
       show (w.length + 1) * 8 ≤ 140737488355328
       omega)]
     |false =>
      rw [br_ff, if_neg (by decide)]
      cases hkn : known L q with
      |true => rw [br_tt, if_pos rfl]; rfl
      |false =>
       rw [br_ff, br_pos hpl, br_eq' (by omega), hnew hkn, if_neg (by decide)]
       rfl
   cases h1 : D.sy (L.getD i pw0).1 x || D.st (D.nxt (L.getD i pw0).1 x) with
   |true =>
    rw [h1, if_pos rfl] at h
    cases h
    exact .now fun m => by rw [key, h1, if_pos rfl]
   |false =>
    rw [h1, if_neg (by decide)] at h
    rw [Bool.or_eq_false_iff] at h1
    cases h2 : known L (D.nxt (L.getD i pw0).1 x) with
    |true =>
     rw [h2, if_pos rfl] at h
     exact .step (fun m => by rw [key, h1.1, h1.2, h2, Bool.or_false, if_neg (by decide), if_pos rfl]) (search_run A B s K0 n i (x + 1) L o r h I W hi (by omega))
    |false =>
     rw [h2, if_neg (by decide)] at h
     refine .step (fun m => by rw [key, h1.1, h1.2, h2, Bool.or_false, if_neg (by decide), if_neg (by decide)]) ?_
     have ih := search_run A B s K0 n i (x + 1) _ _ r h (I.push F hi hx' h1.2 h2) (W.push hm h2 x) (by simp; omega) (by omega)
     rw [List.map_append, getD_snoc, if_pos hi] at ih
     exact ih
  ·rw [if_neg c] at h
   have hrow : (L.map (·.1)).length = L.length := List.length_map _
   have key : ∀ m, (run_q1x K0 (m + 1)).2 i D.K x D.k D.K O D.N D.nx D.ou D.k D.K O' D.M D.nx' D.ou' s.1 s.2 o (L.map (·.1)) 0 0 [] (L.getD i pw0).1.1 (L.getD i pw0).1.2 =
     (run_q1x K0 m).1 ((i + 1 : Nat) : Int) D.k D.K O D.N D.nx D.ou D.k D.K O' D.M D.nx' D.ou' s.1 s.2 o (L.map (·.1)) 0 0 [] := by
    intro m
    show s_q1x_13 _ _ _ _ _ _ _ _ _ _ _ _ _ _ _ _ _ _ _ _ _ _ _ _ _ _ _ = _
    unfold s_q1x_13 gs_q1x_13
    rw [br_neg c, wr _ (by omega) (by omega)]
    rfl
   refine .step key ?_
   by_cases h3 : i + 1 < L.length
   ·rw [if_pos h3] at h
    refine .step (fun m => ?_) (search_run A B s K0 n (i + 1) 0 L o r h I W h3 (by omega))
    show s_q1x_9 (run_q1x K0 m).1 (run_q1x K0 m).2 K0 _ _ _ _ _ _ _ _ _ _ _ _ _ _ _ _ _ _ _ _ = _
    unfold s_q1x_9 gs_q1x_9
    rw [hrow, br_eq' (by omega), br_pos (by omega), Int.toNat_natCast, rows_get]
    rfl
   ·rw [if_neg h3] at h
    cases h
    refine .now fun m => ?_
    show s_q1x_9 (run_q1x K0 m).1 (run_q1x K0 m).2 K0 _ _ _ _ _ _ _ _ _ _ _ _ _ _ _ _ _ _ _ _ = _
    unfold s_q1x_9 gs_q1x_9
    rw [hrow, br_eq (by omega)]

theorem ok_q1x {R : Type} (a : Int) (a_1 : Int) (a_2 : Int) (a_3 : Int) (a_4 : List Int) (a_5 : List Int) (b : Int) (b_1 : Int) (b_2 : Int) (b_3 : Int) (b_4 : List Int) (b_5 : List Int) (start : Int) (start_1 : Int) (K0 : Bool -> (List Int) -> Option R) {r : R} (h : l_q1x a a_1 a_2 a_3 a_4 a_5 b b_1 b_2 b_3 b_4 b_5 start start_1 K0 = some r) : ∃ fuel, e_q1x (run_q1x K0 fuel).1 (run_q1x K0 fuel).2 K0 a a_1 a_2 a_3 a_4 a_5 b b_1 b_2 b_3 b_4 b_5 start start_1 = some r := by
 unfold l_q1x at h
 rcases bi_some h with ⟨hs, h'⟩ | ⟨_, h'⟩
 ·obtain ⟨h1, h2, rfl, rfl, h3, h4⟩ := of_decide_eq_true hs
  have A := checkR_fine.1 h1
  have B := checkR_fine.1 h2
  rw [← h']
  generalize hD : (⟨a, a_1, a_3, b_3, a_4, a_5, b_4, b_5⟩ : Duo) = D
  have F : D.Fine := by subst hD; exact ⟨⟨_, A⟩, ⟨_, B⟩⟩
  have hin : D.inn (start, start_1) := by subst hD; exact ⟨h3, h4⟩
  have go : D.st (start, start_1) = false -> Reach (fun m => (run_q1x K0 m).1 0 a a_1 a_2 a_3 a_4 a_5 a a_1 b_2 b_3 b_4 b_5 start start_1 (mput (.pr (.int .i64) (.int .i64)) (.pr (.pr (.int .i64) (.int .i64)) (.int .i64)) (start, start_1) ((0, 0), 0) ([] : List ((Int × Int) × ((Int × Int) × Int)))) [(start, start_1)] 0 0 ([] : List Int)) (K0 (searchS D (start, start_1)).1 (searchS D (start, start_1)).2) := fun hst => by
   have := search_run (D := D) (O := a_2) (O' := b_2) (by subst hD; exact A) (by subst hD; exact B) (start, start_1) K0 _ 0 0 _ _ _ (searchS_run F hin hst) (Inv.start hin hst) (Ways.start (start, start_1) ((0, 0), 0)) (by simp) (by omega)
   refine .step (fun m => ?_) this
   subst hD
   rw [show (run_q1x K0 (m + 1)).1 = s_q1x_9 (run_q1x K0 m).1 (run_q1x K0 m).2 K0 from rfl]
   unfold s_q1x_9 gs_q1x_9
   rw [br_eq' (by simp), br_pos (by simp)]
   rfl
  unfold e_q1x ge_q1x
  rcases A.fk with hk | hk
  ·have g1 := A.fou1 hk
   have g2 := B.fou1 hk
   have hs : D.st (start, start_1) = (a_5.getD start.toNat 0 != b_5.getD start_1.toNat 0) := by subst hD; unfold Duo.st; rw [hk]; rfl
   cases hst : D.st (start, start_1) with
   |true =>
    refine ⟨0, ?_⟩
    rw [br_eq hk, br_pos (by omega), br_pos (by omega), ← hs, hst, br_tt]
    unfold searchS
    rw [if_pos hst]
    try rfl
   |false =>
    obtain ⟨n, hn⟩ := (go hst).get
    refine ⟨n, ?_⟩
    rw [br_eq hk, br_pos (by omega), br_pos (by omega), ← hs, hst, br_ff]
    exact hn
  ·have hst : D.st (start, start_1) = false := by subst hD; unfold Duo.st; rw [hk]; rfl
   obtain ⟨n, hn⟩ := (go hst).get
   refine ⟨n, ?_⟩
   rw [br_eq' (by omega)]
   exact hn
 ·cases h'

theorem search_eq {R : Type} {D : Duo} {O O' : Int} (A : Fine D.k D.K O D.N D.nx D.ou) (B : Fine D.k D.K O' D.M D.nx' D.ou') {s : Int × Int} (hs : D.inn s) (K0 : Bool -> List Int -> Option R) :
  l_q1x D.k D.K O D.N D.nx D.ou D.k D.K O' D.M D.nx' D.ou' s.1 s.2 K0 = K0 (searchS D s).1 (searchS D s).2 := by
 unfold l_q1x
 rw [br_pos ⟨checkR_fine.2 A, checkR_fine.2 B, rfl, rfl, hs⟩]

abbrev LT_q1y := {R : Type} -> Int -> Int -> Int -> Int -> (List Int) -> (List Int) -> Int -> Int -> Int -> Int -> (List Int) -> (List Int) -> (Bool -> Int -> (List Int) -> Option R) -> Option R
abbrev gl_q1y (l_q1x : LT_q1x) (l_q1u : LT_q1u) {R : Type} (a a_1 a_2 a_3 : Int) (a_4 a_5 : List Int) (b b_1 b_2 b_3 : Int) (b_4 b_5 : List Int) (K0 : Bool -> Int -> (List Int) -> Option R) : Option R :=
 l_q1u a a_1 a_2 a_3 a_4 a_5 b b_1 b_2 b_3 b_4 b_5 (fun r1 => bi (r1 != 0) (K0 false r1 ([] : List Int)) (l_q1x a a_1 a_2 a_3 a_4 a_5 b b_1 b_2 b_3 b_4 b_5 0 0 (fun r2 r3 => K0 r2 0 r3)))

def l_q1y {R : Type} := @gl_q1y @l_q1x @l_q1u R

theorem sep_eq {R : Type} {k K O N : Int} {nx ou : List Int} {k' K' O' N' : Int} {nx' ou' : List Int} (h1 : okL nx) (h2 : okL ou) (h3 : okL nx') (h4 : okL ou') (K0 : Bool -> Int -> List Int -> Option R) :
  l_q1y k K O N nx ou k' K' O' N' nx' ou' K0 = K0 (sepS k K O N nx ou k' K' O' N' nx' ou').1 (sepS k K O N nx ou k' K' O' N' nx' ou').2.1 (sepS k K O N nx ou k' K' O' N' nx' ou').2.2 := by
 unfold l_q1y gl_q1y sepS
 rw [fit_eq h1 h2 h3 h4]
 try dsimp only
 by_cases hc : fitS k K O N nx ou k' K' O' N' nx' ou' = 0
 ·rw [br_ne' hc, if_neg (by simpa using hc)]
  obtain ⟨A, B, rfl, rfl, rfl⟩ := (fitS_zero h1 h2 h3 h4).1 hc
  have := A.fN
  have := B.fN
  exact search_eq (D := ⟨k, K, N, N', nx, ou, nx', ou'⟩) (s := (0, 0)) A B ⟨by dsimp only; omega, by dsimp only; omega⟩ _
 ·rw [br_ne hc, if_pos (by simpa using hc)]

theorem sepS_short {k K O N : Int} {nx ou : List Int} {k' K' O' N' : Int} {nx' ou' : List Int} (h1 : okL nx) (h2 : okL ou) (h3 : okL nx') (h4 : okL ou') : short (sepS k K O N nx ou k' K' O' N' nx' ou').2.2 := by
 unfold sepS
 by_cases hc : fitS k K O N nx ou k' K' O' N' nx' ou' = 0
 ·rw [if_neg (by simpa using hc)]
  obtain ⟨A, B, rfl, rfl, rfl⟩ := (fitS_zero h1 h2 h3 h4).1 hc
  have := A.fN
  have := B.fN
  exact searchS_short (D := ⟨k, K, N, N', nx, ou, nx', ou'⟩) (s := (0, 0)) ⟨⟨_, A⟩, ⟨_, B⟩⟩ ⟨by dsimp only; omega, by dsimp only; omega⟩
 ·rw [if_pos hc]
  exact (by decide : short ([] : List Int))
theorem sepS_len {k K O N : Int} {nx ou : List Int} {k' K' O' N' : Int} {nx' ou' : List Int} (h1 : okL nx) (h2 : okL ou) (h3 : okL nx') (h4 : okL ou') : (sepS k K O N nx ou k' K' O' N' nx' ou').2.2.length ≤ 1048576 := by
 unfold sepS
 by_cases hc : fitS k K O N nx ou k' K' O' N' nx' ou' = 0
 ·rw [if_neg (by simpa using hc)]
  obtain ⟨A, B, rfl, rfl, rfl⟩ := (fitS_zero h1 h2 h3 h4).1 hc
  have a1 := A.fN
  have b1 := B.fN
  have := searchS_len (D := ⟨k, K, N, N', nx, ou, nx', ou'⟩) (s := (0, 0)) ⟨⟨_, A⟩, ⟨_, B⟩⟩ ⟨by dsimp only; omega, by dsimp only; omega⟩
  have m := mul_most a1 b1
  dsimp only at this ⊢
  omega
 ·rw [if_pos hc]
  exact Nat.zero_le _

abbrev LT_q1z := {R : Type} -> Int -> Int -> Int -> Int -> (List Int) -> (List Int) -> Int -> Int -> Int -> Int -> (List Int) -> (List Int) -> (Bool -> Int -> Option R) -> Option R
abbrev gl_q1z (l_q1y : LT_q1y) {R : Type} (a a_1 a_2 a_3 : Int) (a_4 a_5 : List Int) (b b_1 b_2 b_3 : Int) (b_4 b_5 : List Int) (K0 : Bool -> Int -> Option R) : Option R :=
 l_q1y a a_1 a_2 a_3 a_4 a_5 b b_1 b_2 b_3 b_4 b_5 (fun r1 r2 r3 => bi (r2 == 0) (K0 (!r1) r2) (K0 false r2))

def l_q1z {R : Type} := @gl_q1z @l_q1y R

theorem equal_eq {R : Type} {k K O N : Int} {nx ou : List Int} {k' K' O' N' : Int} {nx' ou' : List Int} (h1 : okL nx) (h2 : okL ou) (h3 : okL nx') (h4 : okL ou') (K0 : Bool -> Int -> Option R) :
  l_q1z k K O N nx ou k' K' O' N' nx' ou' K0 = K0 (decide ((sepS k K O N nx ou k' K' O' N' nx' ou').2.1 = 0) && !(sepS k K O N nx ou k' K' O' N' nx' ou').1) (sepS k K O N nx ou k' K' O' N' nx' ou').2.1 := by
 unfold l_q1z gl_q1z
 rw [sep_eq h1 h2 h3 h4]
 try dsimp only
 by_cases c : (sepS k K O N nx ou k' K' O' N' nx' ou').2.1 = 0
 ·rw [br_eq c, decide_eq_true c, Bool.true_and]
 ·rw [br_eq' c, decide_eq_false c, Bool.false_and]

abbrev LT_q20 := {R : Type} -> Int -> (List Int) -> Int -> Int -> Int -> Int -> (List Int) -> (List Int) -> Int -> (List Int) -> (List Int) -> Int -> Int -> Int -> Int -> (List Int) -> (List Int) -> (Bool -> Option R) -> Option R
abbrev gl_q20 (l_q1z : LT_q1z) (l_q1s : LT_q1s) (l_q1r : LT_q1r) {R : Type} (r : Int) (r_1 : List Int) (r_2 r_3 r_4 r_5 : Int) (r_6 r_7 : List Int) (r_8 : Int) (r_9 r_10 : List Int) (m m_1 m_2 m_3 : Int) (m_4 m_5 : List Int) (K0 : Bool -> Option R) : Option R :=
 bi (r_8 == 2) (l_q1z m m_1 m_2 m_3 m_4 m_5 r_2 r_3 r_4 r_5 r_6 r_7 (fun r1 r2 => K0 r1)) (l_q1r m m_1 m_2 m_3 m_4 m_5 r_10 (fun r3 r4 => l_q1r r_2 r_3 r_4 r_5 r_6 r_7 r_10 (fun r5 r6 => l_q1s r4 r6 (fun r7 => K0 (!r7)))))

def l_q20 {R : Type} := @gl_q20 @l_q1z @l_q1s @l_q1r R

theorem ttr_eq {R : Type} {k K O N : Int} {nx ou : List Int} (o1 : okL nx) (o2 : okL ou) {k' K' O' N' : Int} {nx' ou' : List Int} (p1 : okL nx') (p2 : okL ou') (q : Int) (w : List Int) (a : Int) (o v : List Int) (K0 : Bool -> Option R) :
  l_q20 q w k' K' O' N' nx' ou' a o v k K O N nx ou K0 = K0 (tstTr k K O N nx ou k' K' O' N' nx' ou' a v) := by
 unfold l_q20 gl_q20 l_q1r gl_q1r tstTr
 by_cases c : a = 2
 ·rw [br_eq c, if_pos c, equal_eq o1 o2 p1 p2]
 ·rw [br_eq' c, if_neg c, from_eq o1 o2]
  try dsimp only
  rw [from_eq p1 p2]
  try dsimp only
  rw [equalL_eq (fromS_sh ..)]

abbrev LT_q21 := {R : Type} -> Int -> Int -> Int -> (List Ent) -> Int -> Int -> Int -> Int -> (List Int) -> (List Int) -> (Int -> Bool -> Int -> Option R) -> Option R
abbrev GT_q21_11 (R : Type) := (List Ent) -> Int -> Int -> Int -> Int -> Int -> (List Ent) -> Int -> Int -> Int -> Int -> (List Int) -> (List Int) -> Option R
abbrev gs_q21_11 (l_q1p : LT_q1p) (l_qs : LT_qs) (l_q1b : LT_q1b) (l_q1t : LT_q1t) (l_q20 : LT_q20) (l_qd : LT_qd) {R : Type} (g27_11 : GT_q21_11 R) (K0 : Int -> Bool -> Int -> Option R) (x38 : List Ent) (x39 x40 o0 o0_1 o0_2 : Int) (o0_3 : List Ent) (o1 o1_1 o1_2 o1_3 : Int) (o1_4 o1_5 : List Int) : Option R :=
 bi (decide (x40 < x39)) (bi (decide (0 ≤ x40 ∧ x40 < ((x38.length : Nat) : Int)))
 (l_qd ((eat x38 x40).1.1) ((eat x38 x40).1.2.1) ((eat x38 x40).1.2.2.1) ((eat x38 x40).1.2.2.2.1) ((eat x38 x40).1.2.2.2.2.1) ((eat x38 x40).1.2.2.2.2.2.1) ((eat x38 x40).1.2.2.2.2.2.2.1) ((eat x38 x40).1.2.2.2.2.2.2.2) ((eat x38 x40).2.1) ((eat x38 x40).2.2.1) ((eat x38 x40).2.2.2)
 (fun r6 r7 r8 r9 r10 r11 r12 r13 r14 r15 r16 => l_q1t r6 r7 r8 r9 r10 r11 r12 r13 r14 r15 r16 o1 o1_1 o1_2 o1_3 o1_4 o1_5 (fun r17 => bi (!r17) (K0 x40 false 0) (g27_11 x38 x39 (IntKind.i64.wrap (x40 + 1)) o0 o0_1 o0_2 o0_3 o1 o1_1 o1_2 o1_3 o1_4 o1_5))) (fun r18 r19 r20 r21 r22 r23 r24 r25 r26 r27 r28 =>
 l_q20 r18 r19 r20 r21 r22 r23 r24 r25 r26 r27 r28 o1 o1_1 o1_2 o1_3 o1_4 o1_5 (fun r29 => bi (!r29) (K0 x40 false 0) (g27_11 x38 x39 (IntKind.i64.wrap (x40 + 1)) o0 o0_1 o0_2 o0_3 o1 o1_1 o1_2 o1_3 o1_4 o1_5))) none) none) (K0 (o0_3.length : Int) true 0)

def s_q21_11 {R : Type} := @gs_q21_11 @l_q1p @l_qs @l_q1b @l_q1t @l_q20 @l_qd R

abbrev ge_q21 (l_q1p : LT_q1p) (l_qs : LT_qs) (l_q1b : LT_q1b) (l_q1t : LT_q1t) (l_q20 : LT_q20) (l_qd : LT_qd) {R : Type} (g27_11 : GT_q21_11 R) (K0 : Int -> Bool -> Int -> Option R) (l l_1 l_2 : Int) (l_3 : List Ent) (m m_1 m_2 m_3 : Int) (m_4 m_5 : List Int) : Option R :=
 l_q1b l l_1 l_2 l_3 (fun r1 r2 => bi (r2 != 0) (K0 r1 false r2) (l_qs m m_1 m_2 m_3 m_4 m_5 (fun r3 r4 => bi (r4 != 0) (K0 0 false r4) (l_q1p l l_1 l_2 l_3 m m_1 m_2 m_3 m_4 m_5 (fun r5 => bi (r5 != 0) (K0 0 false r5) (g27_11 l_3 (l_3.length : Int) 0 l l_1 l_2 l_3 m m_1 m_2 m_3 m_4 m_5))))))

def e_q21 {R : Type} := @ge_q21 @l_q1p @l_qs @l_q1b @l_q1t @l_q20 @l_qd R

def run_q21 {R : Type} (K0 : Int -> Bool -> Int -> Option R) : Nat -> GT_q21_11 R
 |0 => fun _ _ _ _ _ _ _ _ _ _ _ _ _ => none
 |n + 1 => s_q21_11 (run_q21 K0 n) K0

def l_q21 {R : Type} (l l_1 l_2 : Int) (l_3 : List Ent) (m m_1 m_2 m_3 : Int) (m_4 m_5 : List Int) (K0 : Int -> Bool -> Int -> Option R) : Option R := evl fun fuel => e_q21 (run_q21 K0 fuel) K0 l l_1 l_2 l_3 m m_1 m_2 m_3 m_4 m_5

theorem lagr_go {R : Type} {k K O : Int} {l : List Ent} {k' K' O' N' : Int} {nx ou : List Int} (o1 : okL nx) (o2 : okL ou) (hl : l.length ≤ 1000000) (hx : ∀ x ∈ l, (x.1.1 = 1 ∨ x.1.1 = 2) ∧ okL x.1.2.2.2.2.2.2.1 ∧ okL x.1.2.2.2.2.2.2.2) (K0 : Int -> Bool -> Int -> Option R) : ∀ (d i : Nat), i + d = l.length →
  Reach (fun m => run_q21 K0 m l (l.length : Int) (i : Int) k K O l k' K' O' N' nx ou) (K0 (agrL k' K' O' N' nx ou (l.drop i) i).1 (agrL k' K' O' N' nx ou (l.drop i) i).2 0) := by
 intro d
 induction d with
 |zero =>
  intro i hi
  refine .now fun m => ?_
  dsimp only [run_q21]
  unfold s_q21_11 gs_q21_11 eat
  rw [br_neg (by omega), List.drop_of_length_le (by omega), show i = l.length by omega]
  rfl
 |succ d ih =>
  intro i hi
  have hil : i < l.length := by omega
  obtain ⟨hk, p1, p2⟩ := hx _ (List.getElem_mem hil)
  have key : ∀ m, run_q21 K0 (m + 1) l (l.length : Int) (i : Int) k K O l k' K' O' N' nx ou = if truE k' K' O' N' nx ou l[i] = true then run_q21 K0 m l (l.length : Int) ((i + 1 : Nat) : Int) k K O l k' K' O' N' nx ou else K0 (i : Int) false 0 := by
   intro m
   rw [show run_q21 K0 (m + 1) = s_q21_11 (run_q21 K0 m) K0 from rfl]
   unfold s_q21_11 gs_q21_11 eat
   rw [br_pos (by omega), br_pos (by omega), Int.toNat_natCast, getD_of _ hil, wr _ (by omega) (by omega)]
   unfold l_qd truE
   by_cases c1 : l[i].1.1 = 1
   ·rw [br_eq c1, if_pos c1]
    try dsimp only
    rw [atr_eq o1 o2]
    cases askTr k' K' O' N' nx ou l[i].1.2.1 l[i].2.2.1 <;> rfl
   ·rw [br_eq' c1, if_neg c1, br_eq (hk.resolve_left c1)]
    try dsimp only
    rw [ttr_eq o1 o2 p1 p2]
    cases tstTr k' K' O' N' nx ou l[i].1.2.2.1 l[i].1.2.2.2.1 l[i].1.2.2.2.2.1 l[i].1.2.2.2.2.2.1 l[i].1.2.2.2.2.2.2.1 l[i].1.2.2.2.2.2.2.2 l[i].2.1 l[i].2.2.2 <;> rfl
  rw [List.drop_eq_getElem_cons hil]
  unfold agrL
  by_cases c : truE k' K' O' N' nx ou l[i] = true
  ·rw [if_pos c]
   refine .step (fun m => ?_) (ih (i + 1) (by omega))
   rw [key, if_pos c]
  ·rw [if_neg c]
   refine .now fun m => ?_
   rw [key, if_neg c]

theorem lagr_eq {R : Type} {k K O : Int} {l : List Ent} {k' K' O' N' : Int} {nx ou : List Int} (o1 : okL nx) (o2 : okL ou) (hl : l.length ≤ 1000000) (hx : ∀ x ∈ l, okEnt x ∧ okL x.1.2.2.2.2.2.2.1 ∧ okL x.1.2.2.2.2.2.2.2) (K0 : Int -> Bool -> Int -> Option R) :
  l_q21 k K O l k' K' O' N' nx ou K0 = K0 (agrS k K O l k' K' O' N' nx ou).1 (agrS k K O l k' K' O' N' nx ou).2.1 (agrS k K O l k' K' O' N' nx ou).2.2 := by
 unfold l_q21 agrS
 by_cases h1 : (lcheckS k K O l).2 = 0
 ·rw [if_neg (by simpa using h1)]
  have hk : ∀ x ∈ l, (x.1.1 = 1 ∨ x.1.1 = 2) ∧ okL x.1.2.2.2.2.2.2.1 ∧ okL x.1.2.2.2.2.2.2.2 := fun x hxl => ⟨entF_kind (lcheckS_ents h1 x hxl), (hx x hxl).2⟩
  have body : ∀ m, e_q21 (run_q21 K0 m) K0 k K O l k' K' O' N' nx ou = if (checkR k' K' O' N' nx ou).2 ≠ 0 then K0 0 false (checkR k' K' O' N' nx ou).2 else if alikeS k K O k' K' O' ≠ 0 then K0 0 false (alikeS k K O k' K' O') else run_q21 K0 m l (l.length : Int) ((0 : Nat) : Int) k K O l k' K' O' N' nx ou := by
   intro m
   unfold e_q21 ge_q21
   rw [lcheck_eq hl (fun x hxl => (hx x hxl).1)]
   try dsimp only
   rw [br_ne' h1, check_eq _ _ _ _ _ _ o1.1 o2.1, checkS_eq o1 o2]
   try dsimp only
   by_cases h2 : (checkR k' K' O' N' nx ou).2 = 0
   ·rw [br_ne' h2, if_neg (by simpa using h2), alike1_eq]
    try dsimp only
    by_cases h3 : alikeS k K O k' K' O' = 0
    ·rw [br_ne' h3, if_neg (by simpa using h3)]
     rfl
    ·rw [br_ne h3, if_pos h3]
   ·rw [br_ne h2, if_pos h2]
  by_cases h2 : (checkR k' K' O' N' nx ou).2 = 0
  ·rw [if_neg (by simpa using h2)]
   by_cases h3 : alikeS k K O k' K' O' = 0
   ·rw [if_neg (by simpa using h3)]
    refine evl_eq (.same (fun m => ?_) ((lagr_go (k := k) (K := K) (O := O) o1 o2 hl hk K0 l.length 0 (by omega)).of_eq (by rw [List.drop_zero])))
    rw [body, if_neg (by simpa using h2), if_neg (by simpa using h3)]
   ·rw [if_pos h3]
    refine evl_eq (.now fun m => ?_)
    rw [body, if_neg (by simpa using h2), if_pos h3]
  ·rw [if_pos h2]
   refine evl_eq (.now fun m => ?_)
   rw [body, if_pos h2]
 ·rw [if_pos h1]
  refine evl_eq (.now fun m => ?_)
  unfold e_q21 ge_q21
  rw [lcheck_eq hl (fun x hxl => (hx x hxl).1)]
  try dsimp only
  rw [br_ne h1]

abbrev LT_q22 := {R : Type} -> (List Int) -> Int -> (Int -> Int -> Option R) -> Option R
abbrev GT_q22_6 (R : Type) := (List Int) -> Int -> Int -> Option R
def s_q22_6 {R : Type} (g57_6 : GT_q22_6 R) (K0 : Int -> Int -> Option R) (w : List Int) (k i : Int) : Option R :=
 bi (decide (i < (w.length : Int))) (bi (decide (0 ≤ i ∧ i < ((w.length : Nat) : Int))) (bi (decide ((w.getD i.toNat 0) < 0)) (K0 i 10) (bi (decide (0 ≤ i ∧ i < ((w.length : Nat) : Int))) (bi (decide ((w.getD i.toNat 0) ≥ k)) (K0 i 10) (g57_6 w k (IntKind.i64.wrap (i + 1)))) none)) none) (K0 0 0)

def e_q22 {R : Type} (g57_6 : GT_q22_6 R) (K0 : Int -> Int -> Option R) (w : List Int) (k : Int) : Option R :=
 bi (decide (k < 1)) (K0 0 1) (bi (decide (k > 64)) (K0 0 1) (bi (decide ((w.length : Int) > 4096)) (K0 0 2) (g57_6 w k 0)))

def run_q22 {R : Type} (K0 : Int -> Int -> Option R) : Nat -> GT_q22_6 R
 |0 => fun _ _ _ => none
 |n + 1 => s_q22_6 (run_q22 K0 n) K0

def l_q22 {R : Type} (w : List Int) (k : Int) (K0 : Int -> Int -> Option R) : Option R := K0 (wordS k w).1 (wordS k w).2

theorem ok_q22 {R : Type} (w : List Int) (k : Int) (K0 : Int -> Int -> Option R) {r : R} (h : l_q22 w k K0 = some r) : ∃ fuel, e_q22 (run_q22 K0 fuel) K0 w k = some r := by
 refine ⟨w.length + 1, ?_⟩
 rw [← h]
 unfold l_q22 e_q22 wordS
 by_cases h1 : k < 1
 ·rw [br_pos h1, if_pos (by omega)]
 rw [br_neg h1]
 by_cases h2 : k > 64
 ·rw [br_pos h2, if_pos (by omega)]
 rw [br_neg h2, if_neg (by omega)]
 by_cases h3 : w.length > 4096
 ·rw [br_pos (by omega), if_pos h3]
 rw [br_neg (by omega), if_neg h3]
 have key := scan_all (F := fun m i => run_q22 K0 m w k (i : Int)) (outside k) (l := w) (A := fun i => K0 i 10) (B := K0 0 0)
  (fun m => by
   show s_q22_6 _ _ _ _ _ = _
   unfold s_q22_6
   rw [br_neg (by omega)])
  (fun m i hi => by
   show s_q22_6 _ _ _ _ _ = _
   unfold s_q22_6
   rw [br_pos (by omega), br_pos (by omega), br_pos (p := 0 ≤ (i : Int) ∧ (i : Int) < ((w.length : Nat) : Int)) (by omega), Int.toNat_natCast, getD_of 0 hi, wr _ (by omega) (by omega)]
   unfold outside
   cases decide (w[i] < 0) <;> cases decide (w[i] ≥ k) <;> rfl)
 refine key.trans ?_
 cases findP (outside k) w <;> rfl

abbrev LT_q23 := {R : Type} -> Int -> (List Int) -> Int -> Int -> Int -> Int -> (List Int) -> (List Int) -> Int -> (List Int) -> (List Int) -> (Int -> Option R) -> Option R
abbrev GT_q23_14 (R : Type) := Int -> Int -> Int -> (List Int) -> (List Int) -> Option R
abbrev gs_q23_14 (l_q22 : LT_q22) {R : Type} (g58_14 : GT_q23_14 R) (K0 : Int -> Option R) (most i o0 : Int) (o0_1 o0_2 : List Int) : Option R :=
 bi (decide (i < (o0_1.length : Int))) (bi (decide (0 ≤ i ∧ i < ((o0_1.length : Nat) : Int))) (bi (decide ((o0_1.getD i.toNat 0) < 0)) (K0 100) (bi (decide (0 ≤ i ∧ i < ((o0_1.length : Nat) : Int))) (bi (decide ((o0_1.getD i.toNat 0) ≥ most)) (K0 100) (g58_14 most (IntKind.i64.wrap (i + 1)) o0 o0_1 o0_2)) none)) none) (K0 0)

def s_q23_14 {R : Type} := @gs_q23_14 @l_q22 R

abbrev ge_q23 (l_q22 : LT_q22) {R : Type} (g58_14 : GT_q23_14 R) (K0 : Int -> Option R) (q : Int) (q_1 : List Int) (q_2 q_3 q_4 q_5 : Int) (q_6 q_7 : List Int) (a : Int) (a_1 a_2 : List Int) : Option R :=
 bi (q != 1) (bi (q != 2) (K0 30) (bi (q == 2) (l_q22 a_2 q_3 (fun r1 r2 => bi ((a_1.length : Int) == 0) (bi (a == 2) (bi ((a_2.length : Int) == 0) (K0 0) (bi (a == 3) (bi (r2 == 0) (K0 0) (K0 100)) (K0 100))) (bi (a == 3) (bi (r2 == 0) (K0 0) (K0 100)) (K0 100))) (K0 100))) (bi (q_2 == 1) (bi (a != 1) (K0 100) (bi (decide ((a_2.length : Int) > 0)) (K0 100) (bi (q_2 != 1)
 (bi (q_2 != 2) (K0 100) (bi ((a_1.length : Int) != 1) (K0 100) (g58_14 2 0 a a_1 a_2))) (bi ((a_1.length : Int) != 1) (K0 100) (g58_14 2 0 a a_1 a_2))))) (bi (a != 1) (K0 100) (bi (decide ((a_2.length : Int) > 0)) (K0 100) (bi (q_2 != 1) (bi (q_2 != 2) (K0 100) (bi ((a_1.length : Int) != (q_1.length : Int)) (K0 100) (g58_14 q_4 0 a a_1 a_2))) (bi ((a_1.length : Int) != (q_1.length : Int)) (K0 100)
 (g58_14 q_4 0 a a_1 a_2)))))))) (bi (q == 2) (l_q22 a_2 q_3 (fun r3 r4 => bi ((a_1.length : Int) == 0) (bi (a == 2) (bi ((a_2.length : Int) == 0) (K0 0) (bi (a == 3) (bi (r4 == 0) (K0 0) (K0 100)) (K0 100))) (bi (a == 3) (bi (r4 == 0) (K0 0) (K0 100)) (K0 100))) (K0 100))) (bi (q_2 == 1) (bi (a != 1) (K0 100) (bi (decide ((a_2.length : Int) > 0)) (K0 100) (bi (q_2 != 1) (bi (q_2 != 2)
 (K0 100) (bi ((a_1.length : Int) != 1) (K0 100) (g58_14 2 0 a a_1 a_2))) (bi ((a_1.length : Int) != 1) (K0 100) (g58_14 2 0 a a_1 a_2))))) (bi (a != 1) (K0 100) (bi (decide ((a_2.length : Int) > 0)) (K0 100) (bi (q_2 != 1) (bi (q_2 != 2) (K0 100) (bi ((a_1.length : Int) != (q_1.length : Int)) (K0 100) (g58_14 q_4 0 a a_1 a_2))) (bi ((a_1.length : Int) != (q_1.length : Int)) (K0 100)
 (g58_14 q_4 0 a a_1 a_2)))))))

def e_q23 {R : Type} := @ge_q23 @l_q22 R

def run_q23 {R : Type} (K0 : Int -> Option R) : Nat -> GT_q23_14 R
 |0 => fun _ _ _ _ _ => none
 |n + 1 => s_q23_14 (run_q23 K0 n) K0

def l_q23 {R : Type} (q : Int) (q_1 : List Int) (q_2 : Int) (q_3 : Int) (q_4 : Int) (q_5 : Int) (q_6 : List Int) (q_7 : List Int) (a : Int) (a_1 : List Int) (a_2 : List Int) (K0 : Int -> Option R) : Option R :=
 bi (decide (short a_1)) (K0 (teachC q q_1 q_2 q_3 q_4 a a_1 a_2)) none

theorem tcLoop {R : Type} {a1 : List Int} (hs : short a1) (K0 : Int -> Option R) (most a : Int) (a2 : List Int) : run_q23 K0 (a1.length + 1) most 0 a a1 a2 = K0 (if allIn most a1 then 0 else 100) := by
 have hs : a1.length < 4611686018427387904 := hs
 refine (scan_all (F := fun m i => run_q23 K0 m most (i : Int) a a1 a2) (outside most) (l := a1) (A := fun i => K0 100) (B := K0 0)
   (fun m => by
    dsimp only [run_q23]
    unfold s_q23_14 gs_q23_14
    rw [br_neg (by omega)])
   (fun m i hi => by
    dsimp only [run_q23]
    unfold s_q23_14 gs_q23_14
    rw [br_pos (by omega), br_pos (by omega), br_pos (p := 0 ≤ (i : Int) ∧ (i : Int) < ((a1.length : Nat) : Int)) (by omega), Int.toNat_natCast, getD_of 0 hi, wr _ (by omega) (by omega)]
    unfold outside
    cases decide (a1[i] < 0) <;> cases decide (a1[i] ≥ most) <;> rfl)).trans ?_
 by_cases hf : allIn most a1
 ·rw [if_pos hf, show findP (outside most) a1 = none from hf]
 ·rw [if_neg hf]
  obtain ⟨i, hi⟩ := Option.ne_none_iff_exists'.1 hf
  rw [hi]

theorem ok_q23 {R : Type} (q : Int) (q_1 : List Int) (q_2 : Int) (q_3 : Int) (q_4 : Int) (q_5 : Int) (q_6 : List Int) (q_7 : List Int) (a : Int) (a_1 : List Int) (a_2 : List Int) (K0 : Int -> Option R) {r : R} (h : l_q23 q q_1 q_2 q_3 q_4 q_5 q_6 q_7 a a_1 a_2 K0 = some r) :
  ∃ fuel, e_q23 (run_q23 K0 fuel) K0 q q_1 q_2 q_3 q_4 q_5 q_6 q_7 a a_1 a_2 = some r := by
 unfold l_q23 at h
 rcases bi_some h with ⟨hs, h⟩ | ⟨_, h⟩
 ·have hs : short a_1 := of_decide_eq_true hs
  refine ⟨a_1.length + 1, ?_⟩
  rw [← h]
  unfold e_q23 ge_q23 l_q22 teachC
  simp only [tcLoop hs]
  simp only [br_if, bne_iff_ne, beq_iff_eq, decide_eq_true_eq, ne_eq]
  generalize (wordS q_3 a_2).2 = c
  have e1 : ((a_1.length : Int) = 0) = (a_1.length = 0) := propext (by omega)
  have e2 : ((a_2.length : Int) = 0) = (a_2.length = 0) := propext (by omega)
  have e3 : ((a_2.length : Int) > 0) = ¬ (a_2.length = 0) := propext (by omega)
  have e4 : ((a_1.length : Int) = 1) = (a_1.length = 1) := propext (by omega)
  have e5 : ((a_1.length : Int) = (q_1.length : Int)) = (a_1.length = q_1.length) := propext (by omega)
  simp only [e1, e2, e3, e4, e5]
  by_cases h1 : q = 1
  ·subst h1
   by_cases h2 : a = 1 <;> by_cases h3 : a_2.length = 0 <;> by_cases h4 : q_2 = 1 <;> by_cases h5 : q_2 = 2 <;> by_cases h6 : a_1.length = 1 <;> by_cases h7 : a_1.length = q_1.length <;> simp_all
  ·by_cases h2 : q = 2
   ·subst h2
    by_cases h2 : a_1.length = 0 <;> by_cases h3 : a_2.length = 0 <;> by_cases h4 : a = 2 <;> by_cases h5 : a = 3 <;> by_cases h6 : c = 0 <;> simp_all
   ·simp_all
 ·cases h

theorem rcheck_eq {R : Type} {q : Int} {q_1 : List Int} {q_2 q_3 q_4 q_5 : Int} {q_6 q_7 : List Int} {a : Int} {a_1 a_2 : List Int} (h : short a_1) (K0 : Int -> Option R) :
  l_q23 q q_1 q_2 q_3 q_4 q_5 q_6 q_7 a a_1 a_2 K0 = K0 (teachC q q_1 q_2 q_3 q_4 a a_1 a_2) := by
 unfold l_q23
 rw [br_pos h]

abbrev LT_q24 := {R : Type} -> Int -> Int -> Int -> Int -> (List Int) -> (List Int) -> (Int -> Int -> Option R) -> Option R
abbrev GT_q24_15 (R : Type) := Int -> Int -> Int -> Int -> Int -> (List Int) -> (List Int) -> Option R
abbrev GT_q24_20 (R : Type) := Int -> Int -> Int -> Int -> Int -> (List Int) -> (List Int) -> Option R
def s_q24_15 {R : Type} (g50_15 : GT_q24_15 R) (g50_20 : GT_q24_20 R) (K0 : Int -> Int -> Option R) (i o0 o0_1 o0_2 o0_3 : Int) (o0_4 o0_5 : List Int) : Option R :=
 bi (decide (i < (o0_4.length : Int))) (bi (decide (0 ≤ i ∧ i < ((o0_4.length : Nat) : Int))) (bi (decide ((o0_4.getD i.toNat 0) < 0)) (K0 i 32) (bi (decide (0 ≤ i ∧ i < ((o0_4.length : Nat) : Int))) (bi (decide ((o0_4.getD i.toNat 0) ≥ o0_3)) (K0 i 32) (g50_15 (IntKind.i64.wrap (i + 1)) o0 o0_1 o0_2 o0_3 o0_4 o0_5)) none)) none) (g50_20 0 o0 o0_1 o0_2 o0_3 o0_4 o0_5)

def s_q24_20 {R : Type} (g50_15 : GT_q24_15 R) (g50_20 : GT_q24_20 R) (K0 : Int -> Int -> Option R) (i o0 o0_1 o0_2 o0_3 : Int) (o0_4 o0_5 : List Int) : Option R :=
 bi (decide (i < (o0_5.length : Int))) (bi (decide (0 ≤ i ∧ i < ((o0_5.length : Nat) : Int))) (bi (decide ((o0_5.getD i.toNat 0) < 0)) (K0 i 33) (bi (decide (0 ≤ i ∧ i < ((o0_5.length : Nat) : Int))) (bi (decide ((o0_5.getD i.toNat 0) ≥ o0_2)) (K0 i 33) (g50_20 (IntKind.i64.wrap (i + 1)) o0 o0_1 o0_2 o0_3 o0_4 o0_5)) none)) none) (K0 0 0)

def e_q24 {R : Type} (g50_15 : GT_q24_15 R) (g50_20 : GT_q24_20 R) (K0 : Int -> Int -> Option R) (m m_1 m_2 m_3 : Int) (m_4 m_5 : List Int) : Option R :=
 bi (m != 1) (bi (m != 2) (K0 0 30) (bi (decide (m_1 < 1)) (K0 0 1) (bi (decide (m_1 > 64)) (K0 0 1) (bi (m == 1) (bi (m_2 != 2) (K0 0 33) (bi (decide (m_2 < 1)) (K0 0 33) (bi (decide (m_2 > 64)) (K0 0 33) (bi (decide (m_3 < 1)) (K0 0 3) (bi (decide (m_3 > 1024)) (K0 0 3) (bi (m == 2) (bi ((m_4.length : Int) != (IntKind.i64.wrap (m_3 * m_1))) (K0 0 31)
 (bi ((m_5.length : Int) != (IntKind.i64.wrap (m_3 * m_1))) (K0 0 31) (g50_15 0 m m_1 m_2 m_3 m_4 m_5))) (bi ((m_4.length : Int) != (IntKind.i64.wrap (m_3 * m_1))) (K0 0 31) (bi ((m_5.length : Int) != m_3) (K0 0 31) (g50_15 0 m m_1 m_2 m_3 m_4 m_5))))))))) (bi (decide (m_2 < 1)) (K0 0 33) (bi (decide (m_2 > 64)) (K0 0 33) (bi (decide (m_3 < 1)) (K0 0 3) (bi (decide (m_3 > 1024)) (K0 0 3)
 (bi (m == 2) (bi ((m_4.length : Int) != (IntKind.i64.wrap (m_3 * m_1))) (K0 0 31) (bi ((m_5.length : Int) != (IntKind.i64.wrap (m_3 * m_1))) (K0 0 31) (g50_15 0 m m_1 m_2 m_3 m_4 m_5))) (bi ((m_4.length : Int) != (IntKind.i64.wrap (m_3 * m_1))) (K0 0 31) (bi ((m_5.length : Int) != m_3) (K0 0 31) (g50_15 0 m m_1 m_2 m_3 m_4 m_5)))))))))))) (bi (decide (m_1 < 1)) (K0 0 1) (bi (decide (m_1 > 64))
 (K0 0 1) (bi (m == 1) (bi (m_2 != 2) (K0 0 33) (bi (decide (m_2 < 1)) (K0 0 33) (bi (decide (m_2 > 64)) (K0 0 33) (bi (decide (m_3 < 1)) (K0 0 3) (bi (decide (m_3 > 1024)) (K0 0 3) (bi (m == 2) (bi ((m_4.length : Int) != (IntKind.i64.wrap (m_3 * m_1))) (K0 0 31) (bi ((m_5.length : Int) != (IntKind.i64.wrap (m_3 * m_1))) (K0 0 31) (g50_15 0 m m_1 m_2 m_3 m_4 m_5)))
 (bi ((m_4.length : Int) != (IntKind.i64.wrap (m_3 * m_1))) (K0 0 31) (bi ((m_5.length : Int) != m_3) (K0 0 31) (g50_15 0 m m_1 m_2 m_3 m_4 m_5))))))))) (bi (decide (m_2 < 1)) (K0 0 33) (bi (decide (m_2 > 64)) (K0 0 33) (bi (decide (m_3 < 1)) (K0 0 3) (bi (decide (m_3 > 1024)) (K0 0 3) (bi (m == 2) (bi ((m_4.length : Int) != (IntKind.i64.wrap (m_3 * m_1))) (K0 0 31)
 (bi ((m_5.length : Int) != (IntKind.i64.wrap (m_3 * m_1))) (K0 0 31) (g50_15 0 m m_1 m_2 m_3 m_4 m_5))) (bi ((m_4.length : Int) != (IntKind.i64.wrap (m_3 * m_1))) (K0 0 31) (bi ((m_5.length : Int) != m_3) (K0 0 31) (g50_15 0 m m_1 m_2 m_3 m_4 m_5)))))))))))

def run_q24 {R : Type} (K0 : Int -> Int -> Option R) : Nat -> (GT_q24_15 R) × (GT_q24_20 R)
 |0 => (fun _ _ _ _ _ _ _ => none, fun _ _ _ _ _ _ _ => none)
 |n + 1 => (fun r => (s_q24_15 r.1 r.2 K0, s_q24_20 r.1 r.2 K0)) (run_q24 K0 n)

def l_q24 {R : Type} (k K O N : Int) (nx ou : List Int) (K0 : Int -> Int -> Option R) : Option R :=
 bi (decide (short nx ∧ short ou)) (K0 (checkR k K O N nx ou).1 (checkR k K O N nx ou).2) none

theorem checkR_head {R : Type} (g1 g2 : Int -> Int -> Int -> Int -> Int -> List Int -> List Int -> Option R) (K0 : Int -> Int -> Option R) (k K O N : Int) (nx ou : List Int) :
  e_q24 g1 g2 K0 k K O N nx ou = if headS k K O N nx ou = 0 then g1 0 k K O N nx ou else K0 0 (headS k K O N nx ou) := by
 have L0 : headS k K O N nx ou = 0 -> g1 0 k K O N nx ou = if headS k K O N nx ou = 0 then g1 0 k K O N nx ou else K0 0 (headS k K O N nx ou) := fun h => by rw [if_pos h]
 have LK : ∀ c, headS k K O N nx ou = c -> c ≠ 0 -> K0 0 c = if headS k K O N nx ou = 0 then g1 0 k K O N nx ou else K0 0 (headS k K O N nx ou) := fun c h h0 => by rw [h, if_neg h0]
 unfold e_q24
 simp only [br_if, bne_iff_ne, beq_iff_eq, decide_eq_true_eq, ne_eq]
 by_cases hb : (1 ≤ N ∧ N ≤ 1024) ∧ 1 ≤ K ∧ K ≤ 64
 ·have := mulK hb
  rw [wr (N * K) (by omega) (by omega)]
  repeat' (refine ite_l (fun _ => ?_) (fun _ => ?_))
  all_goals first
   |exact LK _ (by unfold headS; repeat' (refine ite_l (fun _ => ?_) (fun _ => ?_)); all_goals omega) (by omega)
   |exact L0 (by unfold headS; repeat' (refine ite_l (fun _ => ?_) (fun _ => ?_)); all_goals omega)
 ·repeat' (refine ite_l (fun _ => ?_) (fun _ => ?_))
  all_goals first
   |exact LK _ (by unfold headS; repeat' (refine ite_l (fun _ => ?_) (fun _ => ?_)); all_goals omega) (by omega)
   |exact L0 (by unfold headS; repeat' (refine ite_l (fun _ => ?_) (fun _ => ?_)); all_goals omega)

theorem ok_q24 {R : Type} (k K O N : Int) (nx ou : List Int) (K0 : Int -> Int -> Option R) {r : R} (h : l_q24 k K O N nx ou K0 = some r) :
  ∃ fuel, e_q24 (run_q24 K0 fuel).1 (run_q24 K0 fuel).2 K0 k K O N nx ou = some r := by
 unfold l_q24 at h
 rcases bi_some h with ⟨hs, h⟩ | ⟨_, h⟩
 ·obtain ⟨h1, h2⟩ : nx.length < 4611686018427387904 ∧ ou.length < 4611686018427387904 := of_decide_eq_true hs
  refine ⟨ou.length + 1 + (nx.length + 1), ?_⟩
  rw [← h, checkR_head]
  unfold checkR
  by_cases hh : headS k K O N nx ou = 0
  ·rw [if_pos hh, if_neg (by simpa using hh)]
   have key2 : ∀ n, (run_q24 K0 (n + (ou.length + 1))).2 0 k K O N nx ou = match findP (outside O) ou with | some i => K0 (i : Int) 33 | none => K0 0 0 := fun n =>
    scan_all (F := fun m i => (run_q24 K0 (n + m)).2 (i : Int) k K O N nx ou) (outside O) (l := ou) (A := fun i => K0 i 33) (B := K0 0 0)
     (fun m => by
      show s_q24_20 (run_q24 K0 (n + m)).1 (run_q24 K0 (n + m)).2 K0 _ _ _ _ _ _ _ = _
      unfold s_q24_20
      rw [br_neg (by omega)])
     (fun m i hi => by
      show s_q24_20 (run_q24 K0 (n + m)).1 (run_q24 K0 (n + m)).2 K0 _ _ _ _ _ _ _ = _
      unfold s_q24_20
      rw [br_pos (by omega), br_pos (by omega), br_pos (p := 0 ≤ (i : Int) ∧ (i : Int) < ((ou.length : Nat) : Int)) (by omega), Int.toNat_natCast, getD_of 0 hi, wr _ (by omega) (by omega)]
      unfold outside
      cases decide (ou[i] < 0) <;> cases decide (ou[i] ≥ O) <;> rfl)
   have key1 := scan_all (F := fun m i => (run_q24 K0 (ou.length + 1 + m)).1 (i : Int) k K O N nx ou) (outside N) (l := nx) (A := fun i => K0 i 32)
    (B := match findP (outside O) ou with | some i => K0 (i : Int) 33 | none => K0 0 0)
     (fun m => by
      show s_q24_15 (run_q24 K0 (ou.length + 1 + m)).1 (run_q24 K0 (ou.length + 1 + m)).2 K0 _ _ _ _ _ _ _ = _
      unfold s_q24_15
      rw [br_neg (by omega)]
      have := key2 m
      rwa [show m + (ou.length + 1) = ou.length + 1 + m by omega] at this)
     (fun m i hi => by
      show s_q24_15 (run_q24 K0 (ou.length + 1 + m)).1 (run_q24 K0 (ou.length + 1 + m)).2 K0 _ _ _ _ _ _ _ = _
      unfold s_q24_15
      rw [br_pos (by omega), br_pos (by omega), br_pos (p := 0 ≤ (i : Int) ∧ (i : Int) < ((nx.length : Nat) : Int)) (by omega), Int.toNat_natCast, getD_of 0 hi, wr _ (by omega) (by omega)]
      unfold outside
      cases decide (nx[i] < 0) <;> cases decide (nx[i] ≥ N) <;> rfl)
   refine key1.trans ?_
   cases findP (outside N) nx with
   |some i => rfl
   |none => cases findP (outside O) ou <;> rfl
  ·rw [if_neg hh, if_pos (by simpa using hh)]
 ·cases h

abbrev LT_q25 := {R : Type} -> Int -> Int -> Int -> (List Ent) -> Int -> Int -> Int -> Int -> (List Int) -> (List Int) -> (Int -> Option R) -> Option R
def l_q25 {R : Type} (l l_1 l_2 : Int) (l_3 : List Ent) (m m_1 m_2 m_3 : Int) (m_4 m_5 : List Int) (K0 : Int -> Option R) : Option R :=
 bi (m != l) (K0 30) (bi (m_1 != l_1) (K0 1) (bi (m_2 != l_2) (K0 33) (K0 0)))

theorem ralike_eq {R : Type} {k K O k' K' O' N' : Int} {l : List Ent} {nx ou : List Int} (K0 : Int -> Option R) :
  l_q25 k K O l k' K' O' N' nx ou K0 = K0 (alikeS k K O k' K' O') := by
 unfold l_q25 alikeS
 by_cases c1 : k' = k
 ·rw [br_ne' c1, if_neg (by simpa using c1)]
  by_cases c2 : K' = K
  ·rw [br_ne' c2, if_neg (by simpa using c2)]
   by_cases c3 : O' = O
   ·rw [br_ne' c3, if_neg (by simpa using c3)]
   ·rw [br_ne c3, if_pos c3]
  ·rw [br_ne c2, if_pos c2]
 ·rw [br_ne c1, if_pos c1]

abbrev LT_q26 := {R : Type} -> Int -> Int -> Int -> (List Ent) -> Int -> (List Int) -> Int -> Int -> Int -> Int -> (List Int) -> (List Int) -> Int -> (List Int) -> (List Int) -> (Int -> Option R) -> Option R
abbrev gl_q26 (l_q23 : LT_q23) (l_q22 : LT_q22) (l_q25 : LT_q25) (l_q24 : LT_q24) {R : Type} (l l_1 l_2 : Int) (l_3 : List Ent) (x : Int) (x_1 : List Int) (x_2 x_3 x_4 x_5 : Int) (x_6 x_7 : List Int) (x_8 : Int) (x_9 x_10 : List Int) (K0 : Int -> Option R) : Option R :=
 bi (x == 1) (l_q22 x_1 l_1 (fun r1 r2 => bi (r2 != 0) (K0 r2) (l_q23 1 x_1 l l_1 l_2 0 ([] : List Int) ([] : List Int) x_8 x_9 x_10 (fun r3 => K0 r3)))) (bi (x != 2) (K0 30) (l_q24 x_2 x_3 x_4 x_5 x_6 x_7 (fun r4 r5 => bi (r5 != 0) (K0 r5) (l_q25 l l_1 l_2 l_3 x_2 x_3 x_4 x_5 x_6 x_7 (fun r6 => bi (r6 != 0) (K0 r6)
 (l_q23 2 ([] : List Int) x_2 x_3 x_4 x_5 x_6 x_7 x_8 x_9 x_10 (fun r7 => K0 r7)))))))

def l_q26 {R : Type} := @gl_q26 @l_q23 @l_q22 @l_q25 @l_q24 R

theorem rfault_eq {R : Type} {k K O : Int} {l : List Ent} {q : Int} {w : List Int} {k' K' O' N' : Int} {nx ou : List Int} {a : Int} {o v : List Int} (h : short o) (o1 : okL nx) (o2 : okL ou) (K0 : Int -> Option R) :
  l_q26 k K O l q w k' K' O' N' nx ou a o v K0 = K0 (entF k K O ((q, (w, (k', (K', (O', (N', (nx, ou))))))), (a, (o, v)))) := by
 unfold l_q26 gl_q26 entF
 try dsimp only
 by_cases c1 : q = 1
 ·rw [br_eq c1, if_pos c1]
  unfold l_q22 askF
  try dsimp only
  by_cases c : (wordS K w).2 = 0
  ·rw [br_ne' c, if_neg (by simpa using c), rcheck_eq h]
  ·rw [br_ne c, if_pos c]
 ·rw [br_eq' c1, if_neg c1]
  by_cases c2 : q = 2
  ·rw [br_ne' c2, if_pos c2]
   unfold l_q24 tstF
   rw [br_pos ⟨o1.1, o2.1⟩, checkS_eq o1 o2]
   try dsimp only
   by_cases c : (checkR k' K' O' N' nx ou).2 = 0
   ·rw [br_ne' c, if_neg (by simpa using c), ralike_eq]
    try dsimp only
    by_cases d : alikeS k K O k' K' O' = 0
    ·rw [br_ne' d, if_neg (by simpa using d), rcheck_eq h]
    ·rw [br_ne d, if_pos d]
   ·rw [br_ne c, if_pos c]
  ·rw [br_ne c2, if_neg c2]

abbrev LT_q27 := {R : Type} -> Int -> Int -> Int -> (List Ent) -> (Int -> Int -> Option R) -> Option R
abbrev GT_q27_10 (R : Type) := Int -> Int -> Int -> Int -> (List Ent) -> Option R
abbrev gs_q27_10 (l_q26 : LT_q26) {R : Type} (g13_10 : GT_q27_10 R) (K0 : Int -> Int -> Option R) (i o0 o0_1 o0_2 : Int) (o0_3 : List Ent) : Option R :=
 bi (decide (i < (o0_3.length : Int))) (bi (decide (0 ≤ i ∧ i < ((o0_3.length : Nat) : Int)))
 (l_q26 o0 o0_1 o0_2 o0_3 ((eat o0_3 i).1.1) ((eat o0_3 i).1.2.1) ((eat o0_3 i).1.2.2.1) ((eat o0_3 i).1.2.2.2.1) ((eat o0_3 i).1.2.2.2.2.1) ((eat o0_3 i).1.2.2.2.2.2.1) ((eat o0_3 i).1.2.2.2.2.2.2.1) ((eat o0_3 i).1.2.2.2.2.2.2.2) ((eat o0_3 i).2.1) ((eat o0_3 i).2.2.1) ((eat o0_3 i).2.2.2)
 (fun r1 => bi (r1 != 0) (K0 i r1) (g13_10 (IntKind.i64.wrap (i + 1)) o0 o0_1 o0_2 o0_3))) none) (K0 (o0_3.length : Int) 0)

def s_q27_10 {R : Type} := @gs_q27_10 @l_q26 R

abbrev ge_q27 (l_q26 : LT_q26) {R : Type} (g13_10 : GT_q27_10 R) (K0 : Int -> Int -> Option R) (l l_1 l_2 : Int) (l_3 : List Ent) : Option R :=
 bi (l != 1) (bi (l != 2) (K0 0 30) (bi (decide (l_1 < 1)) (K0 0 1) (bi (decide (l_1 > 64)) (K0 0 1) (bi (l == 1) (bi (l_2 != 2) (K0 0 33) (bi (decide (l_2 < 1)) (K0 0 33) (bi (decide (l_2 > 64)) (K0 0 33) (bi (decide ((l_3.length : Int) > 65536)) (K0 0 3) (g13_10 0 l l_1 l_2 l_3))))) (bi (decide (l_2 < 1)) (K0 0 33) (bi (decide (l_2 > 64)) (K0 0 33) (bi (decide ((l_3.length : Int) > 65536))
 (K0 0 3) (g13_10 0 l l_1 l_2 l_3)))))))) (bi (decide (l_1 < 1)) (K0 0 1) (bi (decide (l_1 > 64)) (K0 0 1) (bi (l == 1) (bi (l_2 != 2) (K0 0 33) (bi (decide (l_2 < 1)) (K0 0 33) (bi (decide (l_2 > 64)) (K0 0 33) (bi (decide ((l_3.length : Int) > 65536)) (K0 0 3) (g13_10 0 l l_1 l_2 l_3))))) (bi (decide (l_2 < 1)) (K0 0 33) (bi (decide (l_2 > 64)) (K0 0 33) (bi (decide ((l_3.length : Int) > 65536))
 (K0 0 3) (g13_10 0 l l_1 l_2 l_3)))))))

def e_q27 {R : Type} := @ge_q27 @l_q26 R

def run_q27 {R : Type} (K0 : Int -> Int -> Option R) : Nat -> GT_q27_10 R
 |0 => fun _ _ _ _ _ => none
 |n + 1 => s_q27_10 (run_q27 K0 n) K0

def l_q27 {R : Type} (l l_1 l_2 : Int) (l_3 : List Ent) (K0 : Int -> Int -> Option R) : Option R := evl fun fuel => e_q27 (run_q27 K0 fuel) K0 l l_1 l_2 l_3

theorem rlcheck_go {R : Type} {k K O : Int} {l : List Ent} (hl : l.length ≤ 1000000) (hx : ∀ x ∈ l, short x.2.2.1 ∧ okL x.1.2.2.2.2.2.2.1 ∧ okL x.1.2.2.2.2.2.2.2) (K0 : Int -> Int -> Option R) : ∀ (d i : Nat), i + d = l.length →
  Reach (fun m => run_q27 K0 m (i : Int) k K O l) (K0 (chkF k K O (l.drop i) i).1 (chkF k K O (l.drop i) i).2) := by
 intro d
 induction d with
 |zero =>
  intro i hi
  refine .now fun m => ?_
  dsimp only [run_q27]
  unfold s_q27_10 gs_q27_10 eat
  rw [br_neg (by omega), List.drop_of_length_le (by omega), show i = l.length by omega]
  rfl
 |succ d ih =>
  intro i hi
  have hil : i < l.length := by omega
  obtain ⟨h1, h2, h3⟩ := hx _ (List.getElem_mem hil)
  have key : ∀ m, run_q27 K0 (m + 1) (i : Int) k K O l = if entF k K O l[i] ≠ 0 then K0 (i : Int) (entF k K O l[i]) else run_q27 K0 m ((i + 1 : Nat) : Int) k K O l := by
   intro m
   rw [show run_q27 K0 (m + 1) = s_q27_10 (run_q27 K0 m) K0 from rfl]
   unfold s_q27_10 gs_q27_10 eat
   rw [br_pos (by omega), br_pos (by omega), Int.toNat_natCast, getD_of _ hil, wr _ (by omega) (by omega), rfault_eq h1 h2 h3]
   try dsimp only
   by_cases c : entF k K O l[i] = 0
   ·rw [if_neg (by simpa using c), br_ne' c]
    rfl
   ·rw [if_pos c, br_ne c]
  rw [List.drop_eq_getElem_cons hil]
  unfold chkF
  by_cases c : entF k K O l[i] ≠ 0
  ·rw [if_pos c]
   refine .now fun m => ?_
   rw [key, if_pos c]
  ·rw [if_neg c]
   refine .step (fun m => ?_) (ih (i + 1) (by omega))
   rw [key, if_neg c]

theorem rlcheck_eq {R : Type} {k K O : Int} {l : List Ent} (hl : l.length ≤ 1000000) (hx : ∀ x ∈ l, short x.2.2.1 ∧ okL x.1.2.2.2.2.2.2.1 ∧ okL x.1.2.2.2.2.2.2.2) (K0 : Int -> Int -> Option R) :
  l_q27 k K O l K0 = K0 (lcheckS k K O l).1 (lcheckS k K O l).2 := by
 have tail : ∀ g : Option R, (bi (decide (K < 1)) (K0 0 1) (bi (decide (K > 64)) (K0 0 1) (bi (k == 1) (bi (O != 2) (K0 0 33) (bi (decide (O < 1)) (K0 0 33) (bi (decide (O > 64)) (K0 0 33) (bi (decide ((l.length : Int) > 65536)) (K0 0 3) g))))
   (bi (decide (O < 1)) (K0 0 33) (bi (decide (O > 64)) (K0 0 33) (bi (decide ((l.length : Int) > 65536)) (K0 0 3) g)))))) =
   if K < 1 ∨ K > 64 then K0 0 1 else if (k = 1 ∧ O ≠ 2) ∨ O < 1 ∨ O > 64 then K0 0 33 else if (l.length : Int) > 65536 then K0 0 3 else g := by
  intro g
  by_cases c1 : K < 1
  ·rw [br_pos c1, if_pos (.inl c1)]
  rw [br_neg c1]
  by_cases c2 : K > 64
  ·rw [br_pos c2, if_pos (.inr c2)]
  rw [br_neg c2, if_neg (show ¬ (K < 1 ∨ K > 64) by omega)]
  by_cases c3 : k = 1
  ·rw [br_eq c3]
   by_cases c4 : O = 2
   ·rw [br_ne' c4, br_neg (by omega), br_neg (by omega), if_neg (by omega)]
    by_cases c5 : (l.length : Int) > 65536
    ·rw [br_pos c5, if_pos c5]
    ·rw [br_neg c5, if_neg c5]
   ·rw [br_ne c4, if_pos (.inl ⟨c3, c4⟩)]
  ·rw [br_eq' c3]
   by_cases c6 : O < 1
   ·rw [br_pos c6, if_pos (by omega)]
   rw [br_neg c6]
   by_cases c7 : O > 64
   ·rw [br_pos c7, if_pos (by omega)]
   rw [br_neg c7, if_neg (by omega)]
   by_cases c5 : (l.length : Int) > 65536
   ·rw [br_pos c5, if_pos c5]
   ·rw [br_neg c5, if_neg c5]
 have body : ∀ m, e_q27 (run_q27 K0 m) K0 k K O l = if lheadS k K O l.length ≠ 0 then K0 0 (lheadS k K O l.length) else run_q27 K0 m ((0 : Nat) : Int) k K O l := by
  intro m
  unfold e_q27 ge_q27 lheadS
  by_cases a1 : k = 1
  ·rw [br_ne' a1, tail, if_neg (show ¬ (k ≠ 1 ∧ k ≠ 2) by omega)]
   repeat' split
   all_goals first | rfl | (simp at *; done) | omega
  ·rw [br_ne a1]
   by_cases a2 : k = 2
   ·rw [br_ne' a2, tail, if_neg (show ¬ (k ≠ 1 ∧ k ≠ 2) by omega)]
    repeat' split
    all_goals first | rfl | (simp at *; done) | omega
   ·rw [br_ne a2, if_pos (⟨a1, a2⟩ : k ≠ 1 ∧ k ≠ 2), if_pos (by decide)]
 unfold l_q27 lcheckS
 by_cases h : lheadS k K O l.length = 0
 ·rw [if_neg (by simpa using h)]
  refine evl_eq (.same (fun m => ?_) ((rlcheck_go hl hx K0 l.length 0 (by omega)).of_eq (by rw [List.drop_zero])))
  rw [body, if_neg (by simpa using h)]
 ·rw [if_pos h]
  refine evl_eq (.now fun m => ?_)
  rw [body, if_pos h]

abbrev LT_q28 := {R : Type} -> Int -> Int -> Int -> Int -> (List Int) -> (List Int) -> Int -> (List Int) -> (Int -> (List Int) -> Option R) -> Option R
abbrev GT_q28_3 (R : Type) := Int -> (List Int) -> Int -> Int -> Int -> Int -> Int -> (List Int) -> (List Int) -> (List Int) -> Option R
def s_q28_3 {R : Type} (g95_3 : GT_q28_3 R) (K0 : Int -> (List Int) -> Option R) (s : Int) (w : List Int) (i o0 o0_1 o0_2 o0_3 : Int) (o0_4 o0_5 o1 : List Int) : Option R :=
 bi (decide (i < (w.length : Int))) (bi (o0 == 2) (bi (decide (0 ≤ i ∧ i < ((w.length : Nat) : Int))) (bi (decide (0 ≤ (IntKind.i64.wrap ((IntKind.i64.wrap (s * o0_1)) + (w.getD i.toNat 0))) ∧ (IntKind.i64.wrap ((IntKind.i64.wrap (s * o0_1)) + (w.getD i.toNat 0))) < ((o0_5.length : Nat) : Int)))
 (bi (decide ((o1.length + [o0_5.getD ((IntKind.i64.wrap ((IntKind.i64.wrap (s * o0_1)) + (w.getD i.toNat 0))).toNat) 0].length) * 8 ≤ lim)) (bi (decide (0 ≤ i ∧ i < ((w.length : Nat) : Int))) (bi (decide (0 ≤ (IntKind.i64.wrap ((IntKind.i64.wrap (s * o0_1)) + (w.getD i.toNat 0))) ∧ (IntKind.i64.wrap ((IntKind.i64.wrap (s * o0_1)) + (w.getD i.toNat 0))) < ((o0_4.length : Nat) : Int)))
 (g95_3 (o0_4.getD ((IntKind.i64.wrap ((IntKind.i64.wrap (s * o0_1)) + (w.getD i.toNat 0))).toNat) 0) w (IntKind.i64.wrap (i + 1)) o0 o0_1 o0_2 o0_3 o0_4 o0_5 (o1 ++ [o0_5.getD ((IntKind.i64.wrap ((IntKind.i64.wrap (s * o0_1)) + (w.getD i.toNat 0))).toNat) 0])) none) none) none) none) none) (bi (decide (0 ≤ i ∧ i < ((w.length : Nat) : Int)))
 (bi (decide (0 ≤ (IntKind.i64.wrap ((IntKind.i64.wrap (s * o0_1)) + (w.getD i.toNat 0))) ∧ (IntKind.i64.wrap ((IntKind.i64.wrap (s * o0_1)) + (w.getD i.toNat 0))) < ((o0_4.length : Nat) : Int))) (g95_3 (o0_4.getD ((IntKind.i64.wrap ((IntKind.i64.wrap (s * o0_1)) + (w.getD i.toNat 0))).toNat) 0) w (IntKind.i64.wrap (i + 1)) o0 o0_1 o0_2 o0_3 o0_4 o0_5 o1) none) none)) (bi (o0 == 1)
 (bi (decide (0 ≤ s ∧ s < ((o0_5.length : Nat) : Int))) (K0 s [o0_5.getD s.toNat 0]) none) (K0 s o1))

def e_q28 {R : Type} (g95_3 : GT_q28_3 R) (K0 : Int -> (List Int) -> Option R) (m m_1 m_2 m_3 : Int) (m_4 m_5 : List Int) (s : Int) (w : List Int) : Option R :=
 g95_3 s w 0 m m_1 m_2 m_3 m_4 m_5 ([] : List Int)

def run_q28 {R : Type} (K0 : Int -> (List Int) -> Option R) : Nat -> GT_q28_3 R
 |0 => fun _ _ _ _ _ _ _ _ _ _ => none
 |n + 1 => s_q28_3 (run_q28 K0 n) K0

def l_q28 {R : Type} (k K O N : Int) (nx ou : List Int) (s : Int) (w : List Int) (K0 : Int -> List Int -> Option R) : Option R :=
 bi (decide ((checkR k K O N nx ou).2 = 0 ∧ (wordS K w).2 = 0 ∧ 0 ≤ s ∧ s < N)) (K0 (endS k K nx ou s w).1 (endS k K nx ou s w).2) none

theorem ok_q28 {R : Type} (k K O N : Int) (nx ou : List Int) (s : Int) (w : List Int) (K0 : Int -> List Int -> Option R) {r : R} (h : l_q28 k K O N nx ou s w K0 = some r) :
  ∃ fuel, e_q28 (run_q28 K0 fuel) K0 k K O N nx ou s w = some r := by
 unfold l_q28 at h
 rcases bi_some h with ⟨hs, h⟩ | ⟨_, h⟩
 ·obtain ⟨hc, hw, hs1, hs2⟩ := of_decide_eq_true hs
  have F := checkR_fine.1 hc
  refine ⟨w.length + 1, ?_⟩
  rw [← h]
  unfold e_q28
  obtain ⟨_, hwl, hwx⟩ := wordS_zero.1 hw
  have hK := F.fK
  have hN := F.fN
  have hNK := mulK ⟨hN, hK⟩
  have hnx := F.fnx
  refine (fold_all (F := fun m i (t : Int × List Int) => run_q28 K0 m t.1 w (i : Int) k K O N nx ou t.2) (f := goS k K nx ou) (l := w)
   (B := fun t => K0 t.1 (if k = 1 then [ou.getD t.1.toNat 0] else t.2)) (fun i t => (0 ≤ t.1 ∧ t.1 < N) ∧ t.2.length ≤ i) ?_ ?_ (s, []) ⟨by omega, by simp⟩).trans ?_
  ·intro m t ht
   show s_q28_3 _ _ _ _ _ _ _ _ _ _ _ _ = _
   unfold s_q28_3
   rw [br_neg (by omega)]
   by_cases hk : k = 1
   ·have := F.fou1 hk
    rw [br_eq hk, br_pos (by omega), if_pos hk]
   ·rw [br_eq' hk, if_neg hk]
  ·intro m i t hi ht
   have hx := hwx _ (List.getElem_mem hi)
   have hin := idx_in ht.1 hx
   have hg : (if k = 2 then t.2 ++ [ou.getD (t.1 * K + w[i]).toNat 0] else t.2).length ≤ i + 1 := by
    split
    ·simp; omega
    ·omega
   refine ⟨⟨goS_in F ht.1 hx, hg⟩, ?_⟩
   show s_q28_3 (run_q28 K0 m) _ _ _ _ _ _ _ _ _ _ _ = run_q28 K0 m (nx.getD (t.1 * K + w[i]).toNat 0) w ((i + 1 : Nat) : Int) k K O N nx ou (if k = 2 then t.2 ++ [ou.getD (t.1 * K + w[i]).toNat 0] else t.2)
   unfold s_q28_3
   rw [br_pos (by omega), Int.toNat_natCast, getD_of 0 hi, wr (t.1 * K) (by omega) (by omega), wr (t.1 * K + w[i]) (by omega) (by omega), wr ((i : Int) + 1) (by omega) (by omega)]
   by_cases hk : k = 2
   ·have := F.fou2 hk
    rw [br_eq hk, br_pos (by omega), br_pos (by omega), br_pos (by simp [lim]; omega), br_pos (by omega), br_pos (by omega), if_pos hk]
    rfl
   ·rw [br_eq' hk, br_pos (by omega), br_pos (by omega), if_neg hk]
    rfl
  ·unfold endS
   rfl
 ·cases h

abbrev LT_q29 := {R : Type} -> Int -> Int -> Int -> Int -> (List Int) -> (List Int) -> Int -> (List Int) -> (Int -> Int -> (List Int) -> Option R) -> Option R
abbrev gl_q29 (l_q28 : LT_q28) (l_q22 : LT_q22) (l_q24 : LT_q24) {R : Type} (m m_1 m_2 m_3 : Int) (m_4 m_5 : List Int) (s : Int) (w : List Int) (K0 : Int -> Int -> (List Int) -> Option R) : Option R :=
 l_q24 m m_1 m_2 m_3 m_4 m_5 (fun r1 r2 => bi (r2 != 0) (K0 0 r2 ([] : List Int)) (bi (decide (s < 0)) (K0 0 32 ([] : List Int)) (bi (decide (s ≥ m_3)) (K0 0 32 ([] : List Int)) (l_q22 w m_1 (fun r3 r4 => bi (r4 != 0) (K0 0 r4 ([] : List Int)) (l_q28 m m_1 m_2 m_3 m_4 m_5 s w (fun r5 r6 => K0 r5 0 r6)))))))

def l_q29 {R : Type} := @gl_q29 @l_q28 @l_q22 @l_q24 R

theorem fromR_eq {R : Type} {k K O N : Int} {nx ou : List Int} {s : Int} {w : List Int} (h1 : short nx) (h2 : short ou) (K0 : Int -> Int -> List Int -> Option R) :
  l_q29 k K O N nx ou s w K0 = K0 (fromS k K O N nx ou s w).1 (fromS k K O N nx ou s w).2.1 (fromS k K O N nx ou s w).2.2 := by
 unfold l_q29 gl_q29 fromS l_q24
 rw [br_pos ⟨h1, h2⟩]
 try dsimp only
 by_cases hc : (checkR k K O N nx ou).2 = 0
 ·rw [br_ne' hc, if_neg (by simpa using hc)]
  by_cases hs1 : s < 0
  ·rw [br_pos hs1, if_pos (.inl hs1)]
  rw [br_neg hs1]
  by_cases hs2 : s ≥ N
  ·rw [br_pos hs2, if_pos (.inr hs2)]
  rw [br_neg hs2, if_neg (by omega)]
  unfold l_q22
  try dsimp only
  by_cases hw : (wordS K w).2 = 0
  ·rw [br_ne' hw, if_neg (by simpa using hw)]
   unfold l_q28
   rw [br_pos ⟨hc, hw, by omega, by omega⟩]
  ·rw [br_ne hw, if_pos (by simpa using hw)]
 ·rw [br_ne hc, if_pos (by simpa using hc)]

abbrev LT_q2a := {R : Type} -> Int -> Int -> Int -> Int -> (List Int) -> (List Int) -> (List Int) -> (Int -> (List Int) -> Option R) -> Option R
abbrev gl_q2a (l_q29 : LT_q29) {R : Type} (m m_1 m_2 m_3 : Int) (m_4 m_5 w : List Int) (K0 : Int -> (List Int) -> Option R) : Option R :=
 l_q29 m m_1 m_2 m_3 m_4 m_5 0 w (fun r1 r2 r3 => K0 r2 r3)

def l_q2a {R : Type} := @gl_q2a @l_q29 R

abbrev LT_q2b := {R : Type} -> (List Int) -> (List Int) -> (Bool -> Option R) -> Option R
abbrev GT_q2b_4 (R : Type) := (List Int) -> (List Int) -> Int -> Option R
def s_q2b_4 {R : Type} (g48_4 : GT_q2b_4 R) (K0 : Bool -> Option R) (a b : List Int) (i : Int) : Option R :=
 bi (decide (i < (a.length : Int))) (bi (decide (0 ≤ i ∧ i < ((a.length : Nat) : Int))) (bi (decide (0 ≤ i ∧ i < ((b.length : Nat) : Int))) (bi ((a.getD i.toNat 0) != (b.getD i.toNat 0)) (K0 false) (g48_4 a b (IntKind.i64.wrap (i + 1)))) none) none) (K0 true)

def e_q2b {R : Type} (g48_4 : GT_q2b_4 R) (K0 : Bool -> Option R) (a b : List Int) : Option R :=
 bi ((a.length : Int) != (b.length : Int)) (K0 false) (g48_4 a b 0)

def run_q2b {R : Type} (K0 : Bool -> Option R) : Nat -> GT_q2b_4 R
 |0 => fun _ _ _ => none
 |n + 1 => s_q2b_4 (run_q2b K0 n) K0

def l_q2b {R : Type} (a : List Int) (b : List Int) (K0 : Bool -> Option R) : Option R := bi (decide (short a)) (K0 (decide (a = b))) none

theorem findP_zip {a b : List Int} (hl : a.length = b.length) : findP (fun i => a.getD i 0 != b.getD i 0) (List.range a.length) = none ↔ a = b := by
 rw [findP_none]
 constructor
 ·intro h
  refine List.ext_getElem hl fun i h1 h2 => ?_
  have := h i (by simpa using h1)
  rw [getD_of 0 h1, getD_of 0 h2] at this
  simpa using this
 ·rintro rfl i _
  simp

theorem ok_q2b {R : Type} (a : List Int) (b : List Int) (K0 : Bool -> Option R) {r : R} (h : l_q2b a b K0 = some r) : ∃ fuel, e_q2b (run_q2b K0 fuel) K0 a b = some r := by
 unfold l_q2b at h
 rcases bi_some h with ⟨hs, h⟩ | ⟨_, h⟩
 ·have hs : a.length < 4611686018427387904 := of_decide_eq_true hs
  refine ⟨a.length + 1, ?_⟩
  rw [← h]
  unfold e_q2b
  by_cases hl : a.length = b.length
  ·rw [br_ne' (by omega)]
   have key := scan_all (F := fun m i => run_q2b K0 m a b (i : Int)) (fun i => a.getD i 0 != b.getD i 0) (l := List.range a.length) (A := fun i => K0 false) (B := K0 true)
    (fun m => by
     show s_q2b_4 _ _ _ _ _ = _
     unfold s_q2b_4
     rw [List.length_range, br_neg (by omega)])
    (fun m i hi => by
     rw [List.length_range] at hi
     show s_q2b_4 _ _ _ _ _ = _
     unfold s_q2b_4
     rw [br_pos (by omega), br_pos (by omega), br_pos (by omega), br_if, Int.toNat_natCast, wr _ (by omega) (by omega), List.getElem_range]
     rfl)
   rw [List.length_range] at key
   refine key.trans ?_
   by_cases e : a = b
   ·rw [(findP_zip hl).2 e]
    simp [e]
   ·have : findP (fun i => a.getD i 0 != b.getD i 0) (List.range a.length) ≠ none := fun h => e ((findP_zip hl).1 h)
    cases hf : findP (fun i => a.getD i 0 != b.getD i 0) (List.range a.length) with
    |none => exact absurd hf this
    |some j => simp [e]
  ·rw [br_ne (by omega)]
   have e : a ≠ b := fun e => hl (by rw [e])
   simp [e]
 ·cases h

theorem same_eq {R : Type} {a b : List Int} (h : short a) (K0 : Bool -> Option R) : l_q2b a b K0 = K0 (decide (a = b)) := by
 unfold l_q2b
 rw [br_pos h]

abbrev LT_q2c := {R : Type} -> Int -> Int -> Int -> Int -> (List Int) -> (List Int) -> Int -> Int -> Int -> Int -> (List Int) -> (List Int) -> Int -> Int -> Int -> (Bool -> Option R) -> Option R
def l_q2c {R : Type} (a a_1 a_2 a_3 : Int) (a_4 a_5 : List Int) (b b_1 b_2 b_3 : Int) (b_4 b_5 : List Int) (s t x : Int) (K0 : Bool -> Option R) : Option R :=
 bi (a == 1) (bi (decide (x < 0)) (bi (decide (0 ≤ s ∧ s < ((a_5.length : Nat) : Int))) (bi (decide (0 ≤ t ∧ t < ((b_5.length : Nat) : Int))) (K0 ((a_5.getD s.toNat 0) != (b_5.getD t.toNat 0))) none) none) (K0 false)) (bi (decide (x ≥ 0)) (bi (decide (0 ≤ (IntKind.i64.wrap ((IntKind.i64.wrap (s * a_1)) + x)) ∧ (IntKind.i64.wrap ((IntKind.i64.wrap (s * a_1)) + x)) < ((a_5.length : Nat) : Int)))
 (bi (decide (0 ≤ (IntKind.i64.wrap ((IntKind.i64.wrap (t * b_1)) + x)) ∧ (IntKind.i64.wrap ((IntKind.i64.wrap (t * b_1)) + x)) < ((b_5.length : Nat) : Int))) (K0 ((a_5.getD ((IntKind.i64.wrap ((IntKind.i64.wrap (s * a_1)) + x)).toNat) 0) != (b_5.getD ((IntKind.i64.wrap ((IntKind.i64.wrap (t * b_1)) + x)).toNat) 0))) none) none) (K0 false))

theorem now_st {R : Type} {D : Duo} {O O' : Int} (A : Fine D.k D.K O D.N D.nx D.ou) (B : Fine D.k D.K O' D.M D.nx' D.ou') {p : Int × Int} (hp : D.inn p) (K0 : Bool -> Option R) :
  l_q2c D.k D.K O D.N D.nx D.ou D.k D.K O' D.M D.nx' D.ou' p.1 p.2 (-1) K0 = K0 (D.st p) := by
 unfold l_q2c Duo.st
 have h1 := hp.1
 have h2 := hp.2
 rcases A.fk with h | h
 ·have := A.fou1 h
  have := B.fou1 h
  rw [br_eq h, br_pos (by omega), br_pos (by omega), br_pos (by omega), h]
  rfl
 ·rw [br_eq' (by omega), br_neg (by omega), h]
  rfl
theorem now_sy {R : Type} {D : Duo} {O O' : Int} (A : Fine D.k D.K O D.N D.nx D.ou) (B : Fine D.k D.K O' D.M D.nx' D.ou') {p : Int × Int} (hp : D.inn p) {x : Int} (hx : 0 ≤ x ∧ x < D.K) (K0 : Bool -> Option R) :
  l_q2c D.k D.K O D.N D.nx D.ou D.k D.K O' D.M D.nx' D.ou' p.1 p.2 x K0 = K0 (D.sy p x) := by
 unfold l_q2c Duo.sy
 have h1 := idx_in hp.1 hx
 have h2 := idx_in hp.2 hx
 have := mulK ⟨A.fN, A.fK⟩
 have := mulK ⟨B.fN, B.fK⟩
 rcases A.fk with h | h
 ·rw [br_eq h, br_neg (by omega), h]
  rfl
 ·have := A.fou2 h
  have := B.fou2 h
  rw [br_eq' (by omega), br_pos (by omega), wr (p.1 * D.K) (by omega) (by omega), wr (p.2 * D.K) (by omega) (by omega), wr (p.1 * D.K + x) (by omega) (by omega), wr (p.2 * D.K + x) (by omega) (by omega), br_pos (by omega), br_pos (by omega), h]
  rfl

abbrev LT_q2d := {R : Type} -> (List Int) -> (List Int) -> ((List Int) -> Option R) -> Option R
def l_q2d {R : Type} (a b : List Int) (K0 : (List Int) -> Option R) : Option R :=
 bi (decide ((([] : List Int).length + a.length) * 8 ≤ lim)) (bi (decide (((([] : List Int) ++ a).length + b.length) * 8 ≤ lim)) (K0 ((([] : List Int) ++ a) ++ b)) none) none

theorem join_eq {R : Type} {a b : List Int} (h : a.length + b.length ≤ 1000000000) (K0 : List Int -> Option R) : l_q2d a b K0 = K0 (a ++ b) := by
 unfold l_q2d
 rw [br_pos (by simp [lim]; omega), br_pos (by simp [lim]; omega)]
 rfl

abbrev LT_q2e := {R : Type} -> Int -> Int -> Int -> Int -> (List Int) -> (List Int) -> Int -> Int -> Int -> Int -> (List Int) -> (List Int) -> Int -> Int -> (Bool -> (List Int) -> Option R) -> Option R
abbrev GT_q2e_8 (R : Type) := Int -> Int -> Int -> Int -> Int -> (List Int) -> (List Int) -> Int -> Int -> Int -> Int -> (List Int) -> (List Int) -> (List Bool) -> (List (List Int)) -> (List Int) -> Option R
abbrev GT_q2e_12 (R : Type) := Int -> Int -> Int -> Int -> Int -> Int -> Int -> Int -> (List Int) -> (List Int) -> Int -> Int -> Int -> Int -> (List Int) -> (List Int) -> (List Bool) -> (List (List Int)) -> (List Int) -> Option R
abbrev gs_q2e_8 (l_q2c : LT_q2c) (l_q2d : LT_q2d) {R : Type} (g77_8 : GT_q2e_8 R) (g77_12 : GT_q2e_12 R) (K0 : Bool -> (List Int) -> Option R) (i o0 o0_1 o0_2 o0_3 : Int) (o0_4 o0_5 : List Int) (o1 o1_1 o1_2 o1_3 : Int) (o1_4 o1_5 : List Int) (o2 : List Bool) (o3 : List (List Int)) (o4 : List Int) : Option R :=
 bi (decide (i < (o3.length : Int))) (bi (decide (0 ≤ i ∧ i < ((o4.length : Nat) : Int))) (bi (decide (o1_3 = 0)) none (bi (decide (0 ≤ i ∧ i < ((o4.length : Nat) : Int))) (bi (decide (o1_3 = 0)) none (g77_12 i (IntKind.i64.wrap ((o4.getD i.toNat 0).tdiv o1_3)) ((o4.getD i.toNat 0).tmod o1_3) 0 o0 o0_1 o0_2 o0_3 o0_4 o0_5 o1 o1_1 o1_2 o1_3 o1_4 o1_5 o2 o3 o4)) none)) none)
 (K0 false ([] : List Int))

def s_q2e_8 {R : Type} := @gs_q2e_8 @l_q2c @l_q2d R

abbrev gs_q2e_12 (l_q2c : LT_q2c) (l_q2d : LT_q2d) {R : Type} (g77_8 : GT_q2e_8 R) (g77_12 : GT_q2e_12 R) (K0 : Bool -> (List Int) -> Option R) (i s t x o0 o0_1 o0_2 o0_3 : Int) (o0_4 o0_5 : List Int) (o1 o1_1 o1_2 o1_3 : Int) (o1_4 o1_5 : List Int) (o2 : List Bool) (o3 : List (List Int)) (o4 : List Int) : Option R :=
 bi (decide (x < o0_1)) (bi (decide (0 ≤ i ∧ i < ((o3.length : Nat) : Int))) (l_q2d (o3.getD i.toNat []) [x] (fun r2 => bi (decide (0 ≤ (IntKind.i64.wrap ((IntKind.i64.wrap (s * o0_1)) + x)) ∧ (IntKind.i64.wrap ((IntKind.i64.wrap (s * o0_1)) + x)) < ((o0_4.length : Nat) : Int)))
 (bi (decide (0 ≤ (IntKind.i64.wrap ((IntKind.i64.wrap (t * o1_1)) + x)) ∧ (IntKind.i64.wrap ((IntKind.i64.wrap (t * o1_1)) + x)) < ((o1_4.length : Nat) : Int))) (l_q2c o0 o0_1 o0_2 o0_3 o0_4 o0_5 o1 o1_1 o1_2 o1_3 o1_4 o1_5 s t x (fun r3 => bi r3 (K0 true r2)
 (l_q2c o0 o0_1 o0_2 o0_3 o0_4 o0_5 o1 o1_1 o1_2 o1_3 o1_4 o1_5 (o0_4.getD ((IntKind.i64.wrap ((IntKind.i64.wrap (s * o0_1)) + x)).toNat) 0) (o1_4.getD ((IntKind.i64.wrap ((IntKind.i64.wrap (t * o1_1)) + x)).toNat) 0) (-1) (fun r4 => bi r4 (K0 true r2)
 (bi (decide (0 ≤ (IntKind.i64.wrap ((IntKind.i64.wrap ((o0_4.getD ((IntKind.i64.wrap ((IntKind.i64.wrap (s * o0_1)) + x)).toNat) 0) * o1_3)) + (o1_4.getD ((IntKind.i64.wrap ((IntKind.i64.wrap (t * o1_1)) + x)).toNat) 0))) ∧ (IntKind.i64.wrap ((IntKind.i64.wrap ((o0_4.getD ((IntKind.i64.wrap ((IntKind.i64.wrap (s * o0_1)) + x)).toNat) 0) * o1_3)) + (o1_4.getD ((IntKind.i64.wrap ((IntKind.i64.wrap (t * o1_1)) + x)).toNat) 0))) < ((o2.length : Nat) : Int)))
 (bi (!(o2.getD ((IntKind.i64.wrap ((IntKind.i64.wrap ((o0_4.getD ((IntKind.i64.wrap ((IntKind.i64.wrap (s * o0_1)) + x)).toNat) 0) * o1_3)) + (o1_4.getD ((IntKind.i64.wrap ((IntKind.i64.wrap (t * o1_1)) + x)).toNat) 0))).toNat) false))
 (bi (decide (0 ≤ (IntKind.i64.wrap ((IntKind.i64.wrap ((o0_4.getD ((IntKind.i64.wrap ((IntKind.i64.wrap (s * o0_1)) + x)).toNat) 0) * o1_3)) + (o1_4.getD ((IntKind.i64.wrap ((IntKind.i64.wrap (t * o1_1)) + x)).toNat) 0))) ∧ (IntKind.i64.wrap ((IntKind.i64.wrap ((o0_4.getD ((IntKind.i64.wrap ((IntKind.i64.wrap (s * o0_1)) + x)).toNat) 0) * o1_3)) + (o1_4.getD ((IntKind.i64.wrap ((IntKind.i64.wrap (t * o1_1)) + x)).toNat) 0))) < ((o2.length : Nat) : Int)))
 (bi (decide ((o3.length + [r2].length) * 24 ≤ lim)) (bi (decide ((o4.length + [IntKind.i64.wrap ((IntKind.i64.wrap ((o0_4.getD ((IntKind.i64.wrap ((IntKind.i64.wrap (s * o0_1)) + x)).toNat) 0) * o1_3)) + (o1_4.getD ((IntKind.i64.wrap ((IntKind.i64.wrap (t * o1_1)) + x)).toNat) 0))].length) * 8 ≤ lim))
 (g77_12 i s t (IntKind.i64.wrap (x + 1)) o0 o0_1 o0_2 o0_3 o0_4 o0_5 o1 o1_1 o1_2 o1_3 o1_4 o1_5 (o2.set ((IntKind.i64.wrap ((IntKind.i64.wrap ((o0_4.getD ((IntKind.i64.wrap ((IntKind.i64.wrap (s * o0_1)) + x)).toNat) 0) * o1_3)) + (o1_4.getD ((IntKind.i64.wrap ((IntKind.i64.wrap (t * o1_1)) + x)).toNat) 0))).toNat) true) (o3 ++ [r2]) (o4 ++ [IntKind.i64.wrap ((IntKind.i64.wrap ((o0_4.getD ((IntKind.i64.wrap ((IntKind.i64.wrap (s * o0_1)) + x)).toNat) 0) * o1_3)) + (o1_4.getD ((IntKind.i64.wrap ((IntKind.i64.wrap (t * o1_1)) + x)).toNat) 0))]))
 none) none) none) (g77_12 i s t (IntKind.i64.wrap (x + 1)) o0 o0_1 o0_2 o0_3 o0_4 o0_5 o1 o1_1 o1_2 o1_3 o1_4 o1_5 o2 o3 o4)) none))))) none) none)) none) (g77_8 (IntKind.i64.wrap (i + 1)) o0 o0_1 o0_2 o0_3 o0_4 o0_5 o1 o1_1 o1_2 o1_3 o1_4 o1_5 o2 o3 o4)

def s_q2e_12 {R : Type} := @gs_q2e_12 @l_q2c @l_q2d R

abbrev ge_q2e (l_q2c : LT_q2c) (l_q2d : LT_q2d) {R : Type} (g77_8 : GT_q2e_8 R) (g77_12 : GT_q2e_12 R) (K0 : Bool -> (List Int) -> Option R) (a a_1 a_2 a_3 : Int) (a_4 a_5 : List Int) (b b_1 b_2 b_3 : Int) (b_4 b_5 : List Int) (s t : Int) : Option R :=
 l_q2c a a_1 a_2 a_3 a_4 a_5 b b_1 b_2 b_3 b_4 b_5 s t (-1) (fun r1 => bi r1 (K0 true ([] : List Int)) (bi (decide (0 ≤ (IntKind.i64.wrap (a_3 * b_3)) ∧ (IntKind.i64.wrap (a_3 * b_3)) ≤ (IntKind.i64.wrap (a_3 * b_3)) ∧ (IntKind.i64.wrap (a_3 * b_3)) ≤ 1073741824))
 (bi (decide (0 ≤ (IntKind.i64.wrap ((IntKind.i64.wrap (s * b_3)) + t)) ∧ (IntKind.i64.wrap ((IntKind.i64.wrap (s * b_3)) + t)) < (((List.replicate (IntKind.i64.wrap (a_3 * b_3)).toNat (false : Bool)).length : Nat) : Int)))
 (g77_8 0 a a_1 a_2 a_3 a_4 a_5 b b_1 b_2 b_3 b_4 b_5 ((List.replicate (IntKind.i64.wrap (a_3 * b_3)).toNat (false : Bool)).set ((IntKind.i64.wrap ((IntKind.i64.wrap (s * b_3)) + t)).toNat) true) [([] : List Int)] [IntKind.i64.wrap ((IntKind.i64.wrap (s * b_3)) + t)]) none) none))

def e_q2e {R : Type} := @ge_q2e @l_q2c @l_q2d R

def run_q2e {R : Type} (K0 : Bool -> (List Int) -> Option R) : Nat -> (GT_q2e_8 R) × (GT_q2e_12 R)
 |0 => (fun _ _ _ _ _ _ _ _ _ _ _ _ _ _ _ _ => none, fun _ _ _ _ _ _ _ _ _ _ _ _ _ _ _ _ _ _ _ => none)
 |n + 1 => (fun r => (s_q2e_8 r.1 r.2 K0, s_q2e_12 r.1 r.2 K0)) (run_q2e K0 n)

def l_q2e {R : Type} (a : Int) (a_1 : Int) (a_2 : Int) (a_3 : Int) (a_4 : List Int) (a_5 : List Int) (b : Int) (b_1 : Int) (b_2 : Int) (b_3 : Int) (b_4 : List Int) (b_5 : List Int) (s : Int) (t : Int) (K0 : Bool -> (List Int) -> Option R) : Option R :=
 bi (decide ((checkR a a_1 a_2 a_3 a_4 a_5).2 = 0 ∧ (checkR b b_1 b_2 b_3 b_4 b_5).2 = 0 ∧ a = b ∧ a_1 = b_1 ∧ (0 ≤ s ∧ s < a_3) ∧ (0 ≤ t ∧ t < b_3)))
  (K0 (searchS ⟨a, a_1, a_3, b_3, a_4, a_5, b_4, b_5⟩ (s, t)).1 (searchS ⟨a, a_1, a_3, b_3, a_4, a_5, b_4, b_5⟩ (s, t)).2) none

/-- The marks are the row's. -/
structure Marks (D : Duo) (kn : List Bool) (L : List PW) : Prop where
 len : kn.length = (D.N * D.M).toNat
 get : ∀ q, D.inn q -> kn.getD (q.1 * D.M + q.2).toNat false = known L q

theorem getD_setB (l : List Bool) (i t : Nat) (x : Bool) : (l.set i x).getD t false = if i = t ∧ i < l.length then x else l.getD t false := by
 rw [List.getD_eq_getElem?_getD, List.getElem?_set, List.getD_eq_getElem?_getD]
 by_cases h : i = t
 ·subst h
  by_cases h2 : i < l.length
  ·simp [h2]
  ·simp [h2]
 ·simp [h]

theorem known_snoc (L : List PW) (p q : Int × Int) (w : List Int) : known (L ++ [(p, w)]) q = (known L q || decide (p = q)) := by
 unfold known
 rw [List.any_append]
 congr 1
 rw [Bool.eq_iff_iff]
 simp [Prod.ext_iff]

theorem Marks.push {D : Duo} {kn : List Bool} {L : List PW} (M : Marks D kn L) {p : Int × Int} (hp : D.inn p) (w : List Int) : Marks D (kn.set (p.1 * D.M + p.2).toNat true) (L ++ [(p, w)]) := by
 refine ⟨by rw [List.length_set]; exact M.len, ?_⟩
 intro q hq
 have i1 := pair_in hp
 have i2 := pair_in hq
 have hl := M.len
 rw [getD_setB, known_snoc, M.get q hq]
 by_cases c : p = q
 ·subst c
  rw [if_pos ⟨rfl, by omega⟩, decide_eq_true rfl, Bool.or_true]
 ·rw [if_neg, decide_eq_false c, Bool.or_false]
  rintro ⟨h, _⟩
  have := pair_inj hp.2 hq.2 (show p.1 * D.M + p.2 = q.1 * D.M + q.2 by omega)
  exact c (Prod.ext this.1 this.2)

theorem words_get (L : List PW) (i : Nat) : (L.map (·.2)).getD i [] = (L.getD i pw0).2 := by
 simp only [List.getD_eq_getElem?_getD, List.getElem?_map]
 cases L[i]? <;> rfl
theorem ats_get (D : Duo) {L : List PW} {i : Nat} (h : i < L.length) : (L.map fun e => e.1.1 * D.M + e.1.2).getD i 0 = (L.getD i pw0).1.1 * D.M + (L.getD i pw0).1.2 := by
 rw [getD_of 0 (by simpa using h), List.getElem_map, getD_of pw0 h]
theorem pair_div {M a b : Int} (ha : 0 ≤ a) (h1 : 0 ≤ b ∧ b < M) : (a * M + b).tdiv M = a ∧ (a * M + b).tmod M = b := by
 have h0 : 0 ≤ a * M := Int.mul_nonneg ha (by omega)
 rw [Int.tdiv_eq_ediv_of_nonneg (by omega), Int.tmod_eq_emod_of_nonneg (by omega)]
 constructor
 ·rw [Int.add_comm, Int.add_mul_ediv_right _ _ (by omega), Int.ediv_eq_zero_of_lt h1.1 h1.2]; omega
 ·rw [Int.add_comm, Int.add_mul_emod_self_right, Int.emod_eq_of_lt h1.1 h1.2]

theorem rsearch_run {R : Type} {D : Duo} {O O' : Int} (A : Fine D.k D.K O D.N D.nx D.ou) (B : Fine D.k D.K O' D.M D.nx' D.ou') (s : Int × Int) (K0 : Bool -> List Int -> Option R) :
  ∀ (n i x : Nat) (L : List PW) (kn : List Bool) (r : Bool × List Int), bfs D n i x L = some r -> Inv D s L -> Marks D kn L -> i < L.length -> x ≤ D.K.toNat →
  Reach (fun m => (run_q2e K0 m).2 i (L.getD i pw0).1.1 (L.getD i pw0).1.2 x D.k D.K O D.N D.nx D.ou D.k D.K O' D.M D.nx' D.ou' kn (L.map (·.2)) (L.map fun e => e.1.1 * D.M + e.1.2)) (K0 r.1 r.2)
 |0, _, _, _, _, _, h, _, _, _, _ => by cases h
 |n + 1, i, x, L, kn, r, h, I, W, hi, hx => by
  have F : D.Fine := ⟨⟨O, A⟩, ⟨O', B⟩⟩
  have hK := A.fK
  have hNK := mulK ⟨A.fN, A.fK⟩
  have hMK := mulK ⟨B.fN, B.fK⟩
  have hNM := mul_most A.fN B.fN
  have hmost := I.most
  have hm : L.getD i pw0 ∈ L := getD_mem hi
  have hp := I.inn _ hm
  have hrow : (L.map (·.2)).length = L.length := List.length_map _
  have hat : (L.map fun e => e.1.1 * D.M + e.1.2).length = L.length := List.length_map _
  unfold bfs at h
  by_cases c : (x : Int) < D.K
  ·rw [if_pos c] at h
   have hx' : 0 ≤ (x : Int) ∧ (x : Int) < D.K := ⟨by omega, c⟩
   have i1 := idx_in hp.1 hx'
   have i2 := idx_in hp.2 hx'
   have f1 := A.fnx
   have f2 := B.fnx
   have hq := nxt_inn F hp hx'
   have hlen := I.len i hi
   have key : ∀ m, (run_q2e K0 (m + 1)).2 i (L.getD i pw0).1.1 (L.getD i pw0).1.2 x D.k D.K O D.N D.nx D.ou D.k D.K O' D.M D.nx' D.ou' kn (L.map (·.2)) (L.map fun e => e.1.1 * D.M + e.1.2) =
     if D.sy (L.getD i pw0).1 x || D.st (D.nxt (L.getD i pw0).1 x) then K0 true ((L.getD i pw0).2 ++ [(x : Int)])
     else if known L (D.nxt (L.getD i pw0).1 x) then (run_q2e K0 m).2 i (L.getD i pw0).1.1 (L.getD i pw0).1.2 ((x + 1 : Nat) : Int) D.k D.K O D.N D.nx D.ou D.k D.K O' D.M D.nx' D.ou' kn (L.map (·.2)) (L.map fun e => e.1.1 * D.M + e.1.2)
     else (run_q2e K0 m).2 i (L.getD i pw0).1.1 (L.getD i pw0).1.2 ((x + 1 : Nat) : Int) D.k D.K O D.N D.nx D.ou D.k D.K O' D.M D.nx' D.ou'
      (kn.set ((D.nxt (L.getD i pw0).1 x).1 * D.M + (D.nxt (L.getD i pw0).1 x).2).toNat true) (L.map (·.2) ++ [(L.getD i pw0).2 ++ [(x : Int)]]) ((L.map fun e => e.1.1 * D.M + e.1.2) ++ [(D.nxt (L.getD i pw0).1 x).1 * D.M + (D.nxt (L.getD i pw0).1 x).2]) := by
    intro m
    rw [show (run_q2e K0 (m + 1)).2 = s_q2e_12 (run_q2e K0 m).1 (run_q2e K0 m).2 K0 from rfl]
    unfold s_q2e_12 gs_q2e_12
    rw [br_pos c, hrow, br_pos (by omega), Int.toNat_natCast, words_get]
    generalize hP : L.getD i pw0 = P at *
    obtain ⟨⟨p1, p2⟩, w⟩ := P
    dsimp only at hp i1 i2 hq hlen ⊢
    rw [join_eq (by
     show w.length + 1 ≤ 1000000000
     omega)]
    rw [wr (p1 * D.K) (by omega) (by omega), wr (p2 * D.K) (by omega) (by omega), wr (p1 * D.K + x) (by omega) (by omega), wr (p2 * D.K + x) (by omega) (by omega), wr ((x : Int) + 1) (by omega) (by omega)]
    rw [br_pos (by omega), br_pos (by omega)]
    rw [show l_q2c D.k D.K O D.N D.nx D.ou D.k D.K O' D.M D.nx' D.ou' p1 p2 x _ = _ from now_sy A B (p := (p1, p2)) hp hx' _]
    try dsimp only
    cases hsy : D.sy (p1, p2) x with
    |true => rw [br_tt, Bool.true_or, if_pos rfl]
    |false =>
    rw [br_ff, Bool.false_or]
    rw [show D.nx.getD (p1 * D.K + x).toNat 0 = (D.nxt (p1, p2) x).1 from rfl, show D.nx'.getD (p2 * D.K + x).toNat 0 = (D.nxt (p1, p2) x).2 from rfl]
    generalize hq' : D.nxt (p1, p2) x = q at *
    rw [now_st A B hq]
    try dsimp only
    cases hst : D.st q with
    |true => rw [br_tt, if_pos rfl]
    |false =>
    rw [br_ff, if_neg (by decide)]
    have i3 := pair_in hq
    have i4 : 0 ≤ q.1 * D.M := Int.mul_nonneg hq.1.1 (by have := B.fN; omega)
    have i5 := hq.2.1
    have hl := W.len
    rw [wr (q.1 * D.M) (by omega) (by omega), wr (q.1 * D.M + q.2) (by omega) (by omega), br_pos (by omega), W.get q hq]
    cases hkn : known L q with
    |true =>
     rw [show (!true) = false from rfl, br_ff, if_pos rfl]
     rfl
    |false =>
     rw [show (!false) = true from rfl, br_tt, if_neg (by decide), br_pos (by omega), br_pos (by
      show (L.length + 1) * 24 ≤ 140737488355328
      omega), hat, br_pos (by
      show (L.length + 1) * 8 ≤ 140737488355328
      omega)]
     rfl
   cases h1 : D.sy (L.getD i pw0).1 x || D.st (D.nxt (L.getD i pw0).1 x) with
   |true =>
    rw [h1, if_pos rfl] at h
    cases h
    exact .now fun m => by rw [key, h1, if_pos rfl]
   |false =>
    rw [h1, if_neg (by decide)] at h
    rw [Bool.or_eq_false_iff] at h1
    cases h2 : known L (D.nxt (L.getD i pw0).1 x) with
    |true =>
     rw [h2, if_pos rfl] at h
     exact .step (fun m => by rw [key, h1.1, h1.2, h2, Bool.or_false, if_neg (by decide), if_pos rfl]) (rsearch_run A B s K0 n i (x + 1) L kn r h I W hi (by omega))
    |false =>
     rw [h2, if_neg (by decide)] at h
     refine .step (fun m => by rw [key, h1.1, h1.2, h2, Bool.or_false, if_neg (by decide), if_neg (by decide)]) ?_
     have ih := rsearch_run A B s K0 n i (x + 1) _ _ r h (I.push F hi hx' h1.2 h2) (W.push hq _) (by simp; omega) (by omega)
     rw [List.map_append, List.map_append, getD_snoc, if_pos hi] at ih
     exact ih
  ·rw [if_neg c] at h
   have key : ∀ m, (run_q2e K0 (m + 1)).2 i (L.getD i pw0).1.1 (L.getD i pw0).1.2 x D.k D.K O D.N D.nx D.ou D.k D.K O' D.M D.nx' D.ou' kn (L.map (·.2)) (L.map fun e => e.1.1 * D.M + e.1.2) =
     (run_q2e K0 m).1 ((i + 1 : Nat) : Int) D.k D.K O D.N D.nx D.ou D.k D.K O' D.M D.nx' D.ou' kn (L.map (·.2)) (L.map fun e => e.1.1 * D.M + e.1.2) := by
    intro m
    rw [show (run_q2e K0 (m + 1)).2 = s_q2e_12 (run_q2e K0 m).1 (run_q2e K0 m).2 K0 from rfl]
    unfold s_q2e_12 gs_q2e_12
    rw [br_neg c, wr _ (by omega) (by omega)]
    rfl
   refine .step key ?_
   by_cases h3 : i + 1 < L.length
   ·rw [if_pos h3] at h
    have hp2 := I.inn _ (getD_mem (d := pw0) h3)
    have hb := B.fN
    refine .step (fun m => ?_) (rsearch_run A B s K0 n (i + 1) 0 L kn r h I W h3 (by omega))
    rw [show (run_q2e K0 (m + 1)).1 = s_q2e_8 (run_q2e K0 m).1 (run_q2e K0 m).2 K0 from rfl]
    unfold s_q2e_8 gs_q2e_8
    have hd := pair_div hp2.1.1 hp2.2
    have hN := A.fN
    rw [hrow, hat, br_pos (by omega), br_pos (by omega), br_neg (by omega), br_pos (by omega), br_neg (by omega), Int.toNat_natCast, ats_get D h3, hd.1, hd.2, wr _ (by have := hp2.1; omega) (by have := hp2.1; omega)]
    rfl
   ·rw [if_neg h3] at h
    cases h
    refine .now fun m => ?_
    rw [show (run_q2e K0 (m + 1)).1 = s_q2e_8 (run_q2e K0 m).1 (run_q2e K0 m).2 K0 from rfl]
    unfold s_q2e_8 gs_q2e_8
    rw [hrow, br_neg (by omega)]

theorem ok_q2e {R : Type} (a : Int) (a_1 : Int) (a_2 : Int) (a_3 : Int) (a_4 : List Int) (a_5 : List Int) (b : Int) (b_1 : Int) (b_2 : Int) (b_3 : Int) (b_4 : List Int) (b_5 : List Int) (s : Int) (t : Int) (K0 : Bool -> (List Int) -> Option R) {r : R} (h : l_q2e a a_1 a_2 a_3 a_4 a_5 b b_1 b_2 b_3 b_4 b_5 s t K0 = some r) : ∃ fuel, e_q2e (run_q2e K0 fuel).1 (run_q2e K0 fuel).2 K0 a a_1 a_2 a_3 a_4 a_5 b b_1 b_2 b_3 b_4 b_5 s t = some r := by
 unfold l_q2e at h
 rcases bi_some h with ⟨hs, h'⟩ | ⟨_, h'⟩
 ·obtain ⟨h1, h2, rfl, rfl, h3, h4⟩ := of_decide_eq_true hs
  have A := checkR_fine.1 h1
  have B := checkR_fine.1 h2
  rw [← h']
  have hin : (⟨a, a_1, a_3, b_3, a_4, a_5, b_4, b_5⟩ : Duo).inn (s, t) := ⟨h3, h4⟩
  have e0 := now_st (R := R) (D := ⟨a, a_1, a_3, b_3, a_4, a_5, b_4, b_5⟩) (O := a_2) (O' := b_2) A B hin
  dsimp only at e0
  unfold e_q2e ge_q2e
  have F : (⟨a, a_1, a_3, b_3, a_4, a_5, b_4, b_5⟩ : Duo).Fine := ⟨⟨_, A⟩, ⟨_, B⟩⟩
  cases hst : Duo.st ⟨a, a_1, a_3, b_3, a_4, a_5, b_4, b_5⟩ (s, t) with
  |true =>
   refine ⟨0, ?_⟩
   rw [e0]
   try dsimp only
   rw [hst, br_tt]
   unfold searchS
   rw [if_pos hst]
   try rfl
  |false =>
   have hNM := mul_most A.fN B.fN
   have i1 := pair_in hin
   have i2 : 0 ≤ s * b_3 := Int.mul_nonneg h3.1 (by omega)
   dsimp only at i1
   have M0 : Marks ⟨a, a_1, a_3, b_3, a_4, a_5, b_4, b_5⟩ ((List.replicate (a_3 * b_3).toNat false).set (s * b_3 + t).toNat true) [((s, t), [])] := by
    have Z : Marks ⟨a, a_1, a_3, b_3, a_4, a_5, b_4, b_5⟩ (List.replicate (a_3 * b_3).toNat false) [] := by
     refine ⟨by simp, fun q _ => ?_⟩
     rw [List.getD_eq_getElem?_getD, List.getElem?_replicate]
     show (if _ then _ else _ : Option Bool).getD false = false
     split <;> rfl
    exact Z.push hin []
   obtain ⟨n, hn⟩ := (rsearch_run (D := ⟨a, a_1, a_3, b_3, a_4, a_5, b_4, b_5⟩) (O := a_2) (O' := b_2) A B (s, t) K0 _ 0 0 _ _ _ (searchS_run F hin hst) (Inv.start hin hst) M0 (by simp) (by omega)).get
   refine ⟨n + 1, ?_⟩
   rw [e0]
   try dsimp only
   rw [hst, br_ff, wr (a_3 * b_3) (by omega) (by omega), wr (s * b_3) (by omega) (by omega), wr (s * b_3 + t) (by omega) (by omega), br_pos (by omega), List.length_replicate, br_pos (by omega)]
   rw [show (run_q2e K0 (n + 1)).1 = s_q2e_8 (run_q2e K0 n).1 (run_q2e K0 n).2 K0 from rfl]
   unfold s_q2e_8 gs_q2e_8
   have hd := pair_div h3.1 h4
   rw [br_pos (by simp), br_pos (by simp), br_neg (by omega), br_pos (by simp), br_neg (by omega)]
   rw [show [s * b_3 + t].getD (0 : Int).toNat 0 = s * b_3 + t from rfl, hd.1, hd.2, wr s (by have := A.fN; omega) (by have := A.fN; omega)]
   exact hn
 ·cases h'

theorem rsearch_eq {R : Type} {D : Duo} {O O' : Int} (A : Fine D.k D.K O D.N D.nx D.ou) (B : Fine D.k D.K O' D.M D.nx' D.ou') {s : Int × Int} (hs : D.inn s) (K0 : Bool -> List Int -> Option R) :
  l_q2e D.k D.K O D.N D.nx D.ou D.k D.K O' D.M D.nx' D.ou' s.1 s.2 K0 = K0 (searchS D s).1 (searchS D s).2 := by
 unfold l_q2e
 rw [br_pos ⟨checkR_fine.2 A, checkR_fine.2 B, rfl, rfl, hs⟩]

abbrev LT_q2f := {R : Type} -> Int -> Int -> Int -> Int -> (List Int) -> (List Int) -> Int -> Int -> Int -> Int -> (List Int) -> (List Int) -> (Bool -> Int -> (List Int) -> Option R) -> Option R
abbrev gl_q2f (l_q2e : LT_q2e) (l_q24 : LT_q24) {R : Type} (a a_1 a_2 a_3 : Int) (a_4 a_5 : List Int) (b b_1 b_2 b_3 : Int) (b_4 b_5 : List Int) (K0 : Bool -> Int -> (List Int) -> Option R) : Option R :=
 l_q24 a a_1 a_2 a_3 a_4 a_5 (fun r1 r2 => bi (r2 != 0) (K0 false r2 ([] : List Int)) (l_q24 b b_1 b_2 b_3 b_4 b_5 (fun r3 r4 => bi (r4 != 0) (K0 false r4 ([] : List Int)) (bi (a != b) (K0 false 30 ([] : List Int)) (bi (a_1 != b_1) (K0 false 1 ([] : List Int)) (bi (a_2 != b_2) (K0 false 33 ([] : List Int))
 (l_q2e a a_1 a_2 a_3 a_4 a_5 b b_1 b_2 b_3 b_4 b_5 0 0 (fun r5 r6 => K0 r5 0 r6))))))))

def l_q2f {R : Type} := @gl_q2f @l_q2e @l_q24 R

theorem rsep_eq {R : Type} {k K O N : Int} {nx ou : List Int} {k' K' O' N' : Int} {nx' ou' : List Int} (h1 : okL nx) (h2 : okL ou) (h3 : okL nx') (h4 : okL ou') (K0 : Bool -> Int -> List Int -> Option R) :
  l_q2f k K O N nx ou k' K' O' N' nx' ou' K0 = K0 (sepS k K O N nx ou k' K' O' N' nx' ou').1 (sepS k K O N nx ou k' K' O' N' nx' ou').2.1 (sepS k K O N nx ou k' K' O' N' nx' ou').2.2 := by
 unfold l_q2f gl_q2f l_q24
 rw [br_pos ⟨h1.1, h2.1⟩]
 try dsimp only
 by_cases c1 : (checkR k K O N nx ou).2 = 0
 ·rw [br_ne' c1, br_pos ⟨h3.1, h4.1⟩]
  try dsimp only
  by_cases c2 : (checkR k' K' O' N' nx' ou').2 = 0
  ·rw [br_ne' c2]
   by_cases c3 : k = k'
   ·rw [br_ne' c3]
    by_cases c4 : K = K'
    ·rw [br_ne' c4]
     by_cases c5 : O = O'
     ·rw [br_ne' c5]
      have A := checkR_fine.1 c1
      have B := checkR_fine.1 c2
      have hc := (fitS_zero h1 h2 h3 h4).2 ⟨A, B, c3, c4, c5⟩
      unfold sepS
      rw [if_neg (by simpa using hc)]
      subst c3 c4 c5
      have := A.fN
      have := B.fN
      exact rsearch_eq (D := ⟨k, K, N, N', nx, ou, nx', ou'⟩) (s := (0, 0)) A B ⟨by dsimp only; omega, by dsimp only; omega⟩ _
     ·rw [br_ne c5]
      unfold sepS fitS
      rw [checkS_eq h1 h2, checkS_eq h3 h4]
      subst c3 c4
      simp [c1, c2, c5]
    ·rw [br_ne c4]
     unfold sepS fitS
     rw [checkS_eq h1 h2, checkS_eq h3 h4]
     subst c3
     simp [c1, c2, c4]
   ·rw [br_ne c3]
    unfold sepS fitS
    rw [checkS_eq h1 h2, checkS_eq h3 h4]
    simp [c1, c2, c3]
  ·rw [br_ne c2]
   unfold sepS fitS
   rw [checkS_eq h1 h2, checkS_eq h3 h4]
   simp [c1, c2]
 ·rw [br_ne c1]
  unfold sepS fitS
  rw [checkS_eq h1 h2]
  simp [c1]

abbrev LT_q2g := {R : Type} -> Int -> (List Int) -> Int -> Int -> Int -> Int -> (List Int) -> (List Int) -> Int -> (List Int) -> (List Int) -> Int -> Int -> Int -> Int -> (List Int) -> (List Int) -> (Bool -> Option R) -> Option R
abbrev gl_q2g (l_q2b : LT_q2b) (l_q2a : LT_q2a) (l_q2f : LT_q2f) {R : Type} (x : Int) (x_1 : List Int) (x_2 x_3 x_4 x_5 : Int) (x_6 x_7 : List Int) (x_8 : Int) (x_9 x_10 : List Int) (m m_1 m_2 m_3 : Int) (m_4 m_5 : List Int) (K0 : Bool -> Option R) : Option R :=
 bi (x == 1) (l_q2a m m_1 m_2 m_3 m_4 m_5 x_1 (fun r1 r2 => l_q2b r2 x_9 (fun r3 => K0 r3))) (bi (x_8 == 2) (l_q2f m m_1 m_2 m_3 m_4 m_5 x_2 x_3 x_4 x_5 x_6 x_7 (fun r4 r5 r6 => K0 (!r4))) (l_q2a m m_1 m_2 m_3 m_4 m_5 x_10 (fun r7 r8 => l_q2a x_2 x_3 x_4 x_5 x_6 x_7 x_10 (fun r9 r10 => l_q2b r8 r10 (fun r11 => K0 (!r11))))))

def l_q2g {R : Type} := @gl_q2g @l_q2b @l_q2a @l_q2f R

theorem rholds_eq {R : Type} {k K O N : Int} {nx ou : List Int} (F : Fine k K O N nx ou) (o1 : okL nx) (o2 : okL ou) {q : Int} {w : List Int} {k' K' O' N' : Int} {nx' ou' : List Int} (hq : q = 1 ∨ (q = 2 ∧ Fine k' K' O' N' nx' ou' ∧ k' = k ∧ K' = K ∧ O' = O)) (p1 : okL nx') (p2 : okL ou') (a : Int) (o v : List Int) (K0 : Bool -> Option R) :
  l_q2g q w k' K' O' N' nx' ou' a o v k K O N nx ou K0 = K0 (truE k K O N nx ou ((q, (w, (k', (K', (O', (N', (nx', ou'))))))), (a, (o, v)))) := by
 unfold l_q2g gl_q2g l_q2a gl_q2a truE askTr tstTr
 try dsimp only
 by_cases c : q = 1
 ·rw [br_eq c, if_pos c, fromR_eq o1.1 o2.1]
  try dsimp only
  rw [same_eq (fromS_sh ..)]
 ·obtain ⟨c2, F', e1, e2, e3⟩ := hq.resolve_left c
  rw [br_eq' c, if_neg c]
  by_cases d : a = 2
  ·have hz : (sepS k K O N nx ou k' K' O' N' nx' ou').2.1 = 0 := by
    have := (fitS_zero o1 o2 p1 p2).2 ⟨F, F', e1.symm, e2.symm, e3.symm⟩
    unfold sepS
    rw [if_neg (by simpa using this)]
   rw [br_eq d, if_pos d, rsep_eq o1 o2 p1 p2]
   try dsimp only
   rw [decide_eq_true hz, Bool.true_and]
  ·rw [br_eq' d, if_neg d, fromR_eq o1.1 o2.1]
   try dsimp only
   rw [fromR_eq p1.1 p2.1]
   try dsimp only
   rw [same_eq (fromS_sh ..)]

abbrev LT_q2h := {R : Type} -> Int -> Int -> Int -> (List Ent) -> Int -> Int -> Int -> Int -> (List Int) -> (List Int) -> (Int -> Bool -> Int -> Option R) -> Option R
abbrev GT_q2h_11 (R : Type) := Int -> Int -> Int -> Int -> (List Ent) -> Int -> Int -> Int -> Int -> (List Int) -> (List Int) -> Option R
abbrev gs_q2h_11 (l_q25 : LT_q25) (l_q24 : LT_q24) (l_q27 : LT_q27) (l_q2g : LT_q2g) {R : Type} (g30_11 : GT_q2h_11 R) (K0 : Int -> Bool -> Int -> Option R) (i o0 o0_1 o0_2 : Int) (o0_3 : List Ent) (o1 o1_1 o1_2 o1_3 : Int) (o1_4 o1_5 : List Int) : Option R :=
 bi (decide (i < (o0_3.length : Int))) (bi (decide (0 ≤ i ∧ i < ((o0_3.length : Nat) : Int)))
 (l_q2g ((eat o0_3 i).1.1) ((eat o0_3 i).1.2.1) ((eat o0_3 i).1.2.2.1) ((eat o0_3 i).1.2.2.2.1) ((eat o0_3 i).1.2.2.2.2.1) ((eat o0_3 i).1.2.2.2.2.2.1) ((eat o0_3 i).1.2.2.2.2.2.2.1) ((eat o0_3 i).1.2.2.2.2.2.2.2) ((eat o0_3 i).2.1) ((eat o0_3 i).2.2.1) ((eat o0_3 i).2.2.2) o1 o1_1 o1_2 o1_3 o1_4 o1_5
 (fun r6 => bi (!r6) (K0 i false 0) (g30_11 (IntKind.i64.wrap (i + 1)) o0 o0_1 o0_2 o0_3 o1 o1_1 o1_2 o1_3 o1_4 o1_5))) none) (K0 (o0_3.length : Int) true 0)

def s_q2h_11 {R : Type} := @gs_q2h_11 @l_q25 @l_q24 @l_q27 @l_q2g R

abbrev ge_q2h (l_q25 : LT_q25) (l_q24 : LT_q24) (l_q27 : LT_q27) (l_q2g : LT_q2g) {R : Type} (g30_11 : GT_q2h_11 R) (K0 : Int -> Bool -> Int -> Option R) (l l_1 l_2 : Int) (l_3 : List Ent) (m m_1 m_2 m_3 : Int) (m_4 m_5 : List Int) : Option R :=
 l_q27 l l_1 l_2 l_3 (fun r1 r2 => bi (r2 != 0) (K0 r1 false r2) (l_q24 m m_1 m_2 m_3 m_4 m_5 (fun r3 r4 => bi (r4 != 0) (K0 0 false r4) (l_q25 l l_1 l_2 l_3 m m_1 m_2 m_3 m_4 m_5 (fun r5 => bi (r5 != 0) (K0 0 false r5) (g30_11 0 l l_1 l_2 l_3 m m_1 m_2 m_3 m_4 m_5))))))

def e_q2h {R : Type} := @ge_q2h @l_q25 @l_q24 @l_q27 @l_q2g R

def run_q2h {R : Type} (K0 : Int -> Bool -> Int -> Option R) : Nat -> GT_q2h_11 R
 |0 => fun _ _ _ _ _ _ _ _ _ _ _ => none
 |n + 1 => s_q2h_11 (run_q2h K0 n) K0

def l_q2h {R : Type} (l l_1 l_2 : Int) (l_3 : List Ent) (m m_1 m_2 m_3 : Int) (m_4 m_5 : List Int) (K0 : Int -> Bool -> Int -> Option R) : Option R := evl fun fuel => e_q2h (run_q2h K0 fuel) K0 l l_1 l_2 l_3 m m_1 m_2 m_3 m_4 m_5

theorem ent_fine {k K O : Int} {x : Ent} (h : entF k K O x = 0) (p1 : okL x.1.2.2.2.2.2.2.1) (p2 : okL x.1.2.2.2.2.2.2.2) : x.1.1 = 1 ∨ (x.1.1 = 2 ∧ Fine x.1.2.2.1 x.1.2.2.2.1 x.1.2.2.2.2.1 x.1.2.2.2.2.2.1 x.1.2.2.2.2.2.2.1 x.1.2.2.2.2.2.2.2 ∧ x.1.2.2.1 = k ∧ x.1.2.2.2.1 = K ∧ x.1.2.2.2.2.1 = O) := by
 rcases entF_kind h with c | c
 ·exact .inl c
 ·unfold entF at h
  rw [if_neg (by omega), if_pos c] at h
  unfold tstF at h
  by_cases d : (checkS x.1.2.2.1 x.1.2.2.2.1 x.1.2.2.2.2.1 x.1.2.2.2.2.2.1 x.1.2.2.2.2.2.2.1 x.1.2.2.2.2.2.2.2).2 = 0
  ·rw [if_neg (by simpa using d)] at h
   by_cases d2 : alikeS k K O x.1.2.2.1 x.1.2.2.2.1 x.1.2.2.2.2.1 = 0
   ·rw [checkS_eq p1 p2] at d
    have e : x.1.2.2.1 = k ∧ x.1.2.2.2.1 = K ∧ x.1.2.2.2.2.1 = O := by
     unfold alikeS at d2
     split at d2
     ·cases d2
     ·split at d2
      ·cases d2
      ·split at d2
       ·cases d2
       ·omega
    exact .inr ⟨c, checkR_fine.1 d, e⟩
   ·rw [if_pos d2] at h
    exact absurd h d2
  ·rw [if_pos d] at h
   exact absurd h d

theorem ragr_go {R : Type} {k K O : Int} {l : List Ent} {k' K' O' N' : Int} {nx ou : List Int} (F : Fine k' K' O' N' nx ou) (e1 : k' = k ∧ K' = K ∧ O' = O) (o1 : okL nx) (o2 : okL ou) (hl : l.length ≤ 1000000) (hx : ∀ x ∈ l, entF k K O x = 0 ∧ okL x.1.2.2.2.2.2.2.1 ∧ okL x.1.2.2.2.2.2.2.2) (K0 : Int -> Bool -> Int -> Option R) : ∀ (d i : Nat), i + d = l.length →
  Reach (fun m => run_q2h K0 m (i : Int) k K O l k' K' O' N' nx ou) (K0 (agrL k' K' O' N' nx ou (l.drop i) i).1 (agrL k' K' O' N' nx ou (l.drop i) i).2 0) := by
 intro d
 induction d with
 |zero =>
  intro i hi
  refine .now fun m => ?_
  dsimp only [run_q2h]
  unfold s_q2h_11 gs_q2h_11 eat
  rw [br_neg (by omega), List.drop_of_length_le (by omega), show i = l.length by omega]
  rfl
 |succ d ih =>
  intro i hi
  have hil : i < l.length := by omega
  obtain ⟨hz, p1, p2⟩ := hx _ (List.getElem_mem hil)
  have hq := ent_fine hz p1 p2
  have key : ∀ m, run_q2h K0 (m + 1) (i : Int) k K O l k' K' O' N' nx ou = if truE k' K' O' N' nx ou l[i] = true then run_q2h K0 m ((i + 1 : Nat) : Int) k K O l k' K' O' N' nx ou else K0 (i : Int) false 0 := by
   intro m
   rw [show run_q2h K0 (m + 1) = s_q2h_11 (run_q2h K0 m) K0 from rfl]
   unfold s_q2h_11 gs_q2h_11 eat
   rw [br_pos (by omega), br_pos (by omega), Int.toNat_natCast, getD_of _ hil, wr _ (by omega) (by omega), rholds_eq F o1 o2 (by rw [e1.1, e1.2.1, e1.2.2]; exact hq) p1 p2]
   try dsimp only
   cases truE k' K' O' N' nx ou l[i] <;> rfl
  rw [List.drop_eq_getElem_cons hil]
  unfold agrL
  by_cases c : truE k' K' O' N' nx ou l[i] = true
  ·rw [if_pos c]
   refine .step (fun m => ?_) (ih (i + 1) (by omega))
   rw [key, if_pos c]
  ·rw [if_neg c]
   refine .now fun m => ?_
   rw [key, if_neg c]

theorem ragr_eq {R : Type} {k K O : Int} {l : List Ent} {k' K' O' N' : Int} {nx ou : List Int} (o1 : okL nx) (o2 : okL ou) (hl : l.length ≤ 1000000) (hx : ∀ x ∈ l, short x.2.2.1 ∧ okL x.1.2.2.2.2.2.2.1 ∧ okL x.1.2.2.2.2.2.2.2) (K0 : Int -> Bool -> Int -> Option R) :
  l_q2h k K O l k' K' O' N' nx ou K0 = K0 (agrS k K O l k' K' O' N' nx ou).1 (agrS k K O l k' K' O' N' nx ou).2.1 (agrS k K O l k' K' O' N' nx ou).2.2 := by
 unfold l_q2h agrS
 by_cases h1 : (lcheckS k K O l).2 = 0
 ·rw [if_neg (by simpa using h1)]
  have body : ∀ m, e_q2h (run_q2h K0 m) K0 k K O l k' K' O' N' nx ou = if (checkR k' K' O' N' nx ou).2 ≠ 0 then K0 0 false (checkR k' K' O' N' nx ou).2 else if alikeS k K O k' K' O' ≠ 0 then K0 0 false (alikeS k K O k' K' O') else run_q2h K0 m ((0 : Nat) : Int) k K O l k' K' O' N' nx ou := by
   intro m
   unfold e_q2h ge_q2h l_q24
   rw [rlcheck_eq hl hx]
   try dsimp only
   rw [br_ne' h1, br_pos ⟨o1.1, o2.1⟩]
   try dsimp only
   by_cases h2 : (checkR k' K' O' N' nx ou).2 = 0
   ·rw [br_ne' h2, if_neg (by simpa using h2), ralike_eq]
    try dsimp only
    by_cases h3 : alikeS k K O k' K' O' = 0
    ·rw [br_ne' h3, if_neg (by simpa using h3)]
     rfl
    ·rw [br_ne h3, if_pos h3]
   ·rw [br_ne h2, if_pos h2]
  by_cases h2 : (checkR k' K' O' N' nx ou).2 = 0
  ·rw [if_neg (by simpa using h2)]
   by_cases h3 : alikeS k K O k' K' O' = 0
   ·rw [if_neg (by simpa using h3)]
    have e1 : k' = k ∧ K' = K ∧ O' = O := by
     have d2 := h3
     unfold alikeS at d2
     split at d2
     ·cases d2
     ·split at d2
      ·cases d2
      ·split at d2
       ·cases d2
       ·omega
    refine evl_eq (.same (fun m => ?_) ((ragr_go (checkR_fine.1 h2) e1 o1 o2 hl (fun x hxl => ⟨lcheckS_ents h1 x hxl, (hx x hxl).2⟩) K0 l.length 0 (by omega)).of_eq (by rw [List.drop_zero])))
    rw [body, if_neg (by simpa using h2), if_neg (by simpa using h3)]
   ·rw [if_pos h3]
    refine evl_eq (.now fun m => ?_)
    rw [body, if_neg (by simpa using h2), if_pos h3]
  ·rw [if_pos h2]
   refine evl_eq (.now fun m => ?_)
   rw [body, if_pos h2]
 ·rw [if_pos h1]
  refine evl_eq (.now fun m => ?_)
  unfold e_q2h ge_q2h
  rw [rlcheck_eq hl hx]
  try dsimp only
  rw [br_ne h1]

abbrev LT_q2i := {R : Type} -> (List Int) -> ((List Int) -> Option R) -> Option R
/-- slices.Clone[[]int,int] -/
def l_q2i {R : Type} (s : List Int) (K0 : List Int -> Option R) : Option R :=
 bi (decide (s.length * 8 ≤ lim)) (K0 s) none

abbrev LT_q2j := {R : Type} -> Int -> Int -> Int -> (List Ent) -> ((List (Int × (List Int × List Int))) -> Option R) -> Option R
abbrev GT_q2j_3 (R : Type) := (List Ent) -> Int -> Int -> (List (Int × (List Int × List Int))) -> Option R
abbrev gs_q2j_3 (l_q2i : LT_q2i) {R : Type} (g22_3 : GT_q2j_3 R) (K0 : (List (Int × (List Int × List Int))) -> Option R) (x7 : List Ent) (x8 x9 : Int) (o0 : List (Int × (List Int × List Int))) : Option R :=
 bi (decide (x9 < x8)) (bi (decide (0 ≤ x9 ∧ x9 < ((x7.length : Nat) : Int))) (l_q2i ((eat x7 x9).2.2.1) (fun r1 => l_q2i ((eat x7 x9).2.2.2) (fun r2 =>
 bi (decide ((o0.length + [((eat x7 x9).2.1, (r1, r2))].length) * 56 ≤ lim)) (g22_3 x7 x8 (IntKind.i64.wrap (x9 + 1)) (o0 ++ [((eat x7 x9).2.1, (r1, r2))])) none))) none) (K0 o0)

def s_q2j_3 {R : Type} := @gs_q2j_3 @l_q2i R

abbrev ge_q2j (l_q2i : LT_q2i) {R : Type} (g22_3 : GT_q2j_3 R) (K0 : (List (Int × (List Int × List Int))) -> Option R) (l l_1 l_2 : Int) (l_3 : List Ent) : Option R :=
 g22_3 l_3 (l_3.length : Int) 0 ([] : List (Int × (List Int × List Int)))

def e_q2j {R : Type} := @ge_q2j @l_q2i R

def run_q2j {R : Type} (K0 : (List (Int × (List Int × List Int))) -> Option R) : Nat -> GT_q2j_3 R
 |0 => fun _ _ _ _ => none
 |n + 1 => s_q2j_3 (run_q2j K0 n) K0

def l_q2j {R : Type} (l l_1 l_2 : Int) (l_3 : List Ent) (K0 : (List (Int × (List Int × List Int))) -> Option R) : Option R := evl fun fuel => e_q2j (run_q2j K0 fuel) K0 l l_1 l_2 l_3

/-- A log's answers. -/
def scrS (l : List Ent) : List (Int × (List Int × List Int)) := l.map fun x => x.2

theorem lscr_go {R : Type} {l : List Ent} (hl : l.length ≤ 1000000) (hx : ∀ x ∈ l, x.2.2.1.length ≤ 1000000 ∧ x.2.2.2.length ≤ 1000000) (K0 : List (Int × (List Int × List Int)) -> Option R) : ∀ (d i : Nat) (o : List (Int × (List Int × List Int))), i + d = l.length -> o.length ≤ i →
  Reach (fun m => run_q2j K0 m l (l.length : Int) (i : Int) o) (K0 (o ++ scrS (l.drop i))) := by
 intro d
 induction d with
 |zero =>
  intro i o hi ho
  refine .now fun m => ?_
  dsimp only [run_q2j]
  unfold s_q2j_3 gs_q2j_3 eat
  rw [br_neg (by omega), List.drop_of_length_le (by omega)]
  simp [scrS]
 |succ d ih =>
  intro i o hi ho
  have hil : i < l.length := by omega
  obtain ⟨h1, h2⟩ := hx _ (List.getElem_mem hil)
  rw [List.drop_eq_getElem_cons hil]
  refine .step (fun m => ?_) ((ih (i + 1) (o ++ [l[i].2]) (by omega) (by rw [List.length_append, List.length_singleton]; omega)).of_eq (by simp only [scrS, List.map_cons, List.append_assoc, List.cons_append, List.nil_append]))
  dsimp only [run_q2j]
  unfold s_q2j_3 gs_q2j_3 eat l_q2i
  rw [br_pos (by omega), br_pos (by omega), Int.toNat_natCast, getD_of _ hil, br_pos (by simp only [lim]; omega)]
  try dsimp only
  rw [br_pos (by simp only [lim]; omega)]
  try dsimp only
  rw [br_pos (by simp only [List.length_cons, List.length_nil, lim]; omega), wr _ (by omega) (by omega)]
  rfl

theorem lscr_eq {R : Type} {k K O : Int} {l : List Ent} (hl : l.length ≤ 1000000) (hx : ∀ x ∈ l, x.2.2.1.length ≤ 1000000 ∧ x.2.2.2.length ≤ 1000000) (K0 : List (Int × (List Int × List Int)) -> Option R) : l_q2j k K O l K0 = K0 (scrS l) := by
 unfold l_q2j
 exact evl_eq (.same (G := fun m => run_q2j K0 m l (l.length : Int) ((0 : Nat) : Int) []) (fun m => rfl) ((lscr_go hl hx K0 l.length 0 [] (by omega) (by simp)).of_eq (by rw [List.drop_zero, List.nil_append])))

abbrev LT_q2k := {R : Type} -> Int -> Int -> Int -> (List Ent) -> ((List (Int × (List Int × List Int))) -> Option R) -> ((List (Int × (List Int × List Int))) -> Option R) -> Option R
abbrev GT_q2k_3a (R : Type) := Int -> Int -> Int -> Int -> (List Ent) -> (List (Int × (List Int × List Int))) -> Option R
abbrev GT_q2k_3b (R : Type) := Int -> Int -> Int -> Int -> (List Ent) -> (List (Int × (List Int × List Int))) -> Option R
def s_q2k_3a {R : Type} (g32_3 : GT_q2k_3a R) (g32_3b : GT_q2k_3b R) (K0 : (List (Int × (List Int × List Int))) -> Option R) (K1 : (List (Int × (List Int × List Int))) -> Option R) (i o0 o0_1 o0_2 : Int) (o0_3 : List Ent) (o1 : List (Int × (List Int × List Int))) : Option R :=
 bi (decide (i < (o0_3.length : Int))) (bi (decide (0 ≤ i ∧ i < ((o0_3.length : Nat) : Int)))
 (bi (decide ((o1.length + [((eat o0_3 i).2.1, ((eat o0_3 i).2.2.1, (eat o0_3 i).2.2.2))].length) * 56 ≤ lim))
 (g32_3b (IntKind.i64.wrap (i + 1)) o0 o0_1 o0_2 o0_3 (o1 ++ [((eat o0_3 i).2.1, ((eat o0_3 i).2.2.1, (eat o0_3 i).2.2.2))])) none) none) (K0 o1)

def s_q2k_3b {R : Type} (g32_3 : GT_q2k_3a R) (g32_3b : GT_q2k_3b R) (K0 : (List (Int × (List Int × List Int))) -> Option R) (K1 : (List (Int × (List Int × List Int))) -> Option R) (i o0 o0_1 o0_2 : Int) (o0_3 : List Ent) (o1 : List (Int × (List Int × List Int))) : Option R :=
 bi (decide (i < (o0_3.length : Int))) (bi (decide (0 ≤ i ∧ i < ((o0_3.length : Nat) : Int)))
 (bi (decide ((o1.length + [((eat o0_3 i).2.1, ((eat o0_3 i).2.2.1, (eat o0_3 i).2.2.2))].length) * 56 ≤ lim))
 (g32_3b (IntKind.i64.wrap (i + 1)) o0 o0_1 o0_2 o0_3 (o1 ++ [((eat o0_3 i).2.1, ((eat o0_3 i).2.2.1, (eat o0_3 i).2.2.2))])) none) none) (K1 o1)

def e_q2k {R : Type} (g32_3 : GT_q2k_3a R) (g32_3b : GT_q2k_3b R) (K0 : (List (Int × (List Int × List Int))) -> Option R) (K1 : (List (Int × (List Int × List Int))) -> Option R) (l l_1 l_2 : Int) (l_3 : List Ent) : Option R :=
 g32_3 0 l l_1 l_2 l_3 ([] : List (Int × (List Int × List Int)))

def run_q2k {R : Type} (K0 : (List (Int × (List Int × List Int))) -> Option R) (K1 : (List (Int × (List Int × List Int))) -> Option R) : Nat -> (GT_q2k_3a R) × (GT_q2k_3b R)
 |0 => (fun _ _ _ _ _ _ => none, fun _ _ _ _ _ _ => none)
 |n + 1 => (fun r => (s_q2k_3a r.1 r.2 K0 K1, s_q2k_3b r.1 r.2 K0 K1)) (run_q2k K0 K1 n)

def l_q2k {R : Type} (l l_1 l_2 : Int) (l_3 : List Ent) (K0 : (List (Int × (List Int × List Int))) -> Option R) (K1 : (List (Int × (List Int × List Int))) -> Option R) : Option R := evl fun fuel => e_q2k (run_q2k K0 K1 fuel).1 (run_q2k K0 K1 fuel).2 K0 K1 l l_1 l_2 l_3

theorem rscr_go {R : Type} {k K O : Int} {l : List Ent} (hl : l.length ≤ 1000000) (K0 K1 : List (Int × (List Int × List Int)) -> Option R) : ∀ (d i : Nat) (o : List (Int × (List Int × List Int))), i + d = l.length -> o.length ≤ i →
  Reach (fun m => (run_q2k K0 K1 m).2 (i : Int) k K O l o) (K1 (o ++ scrS (l.drop i))) := by
 intro d
 induction d with
 |zero =>
  intro i o hi ho
  refine .now fun m => ?_
  dsimp only [run_q2k]
  unfold s_q2k_3b eat
  rw [br_neg (by omega), List.drop_of_length_le (by omega)]
  simp [scrS]
 |succ d ih =>
  intro i o hi ho
  have hil : i < l.length := by omega
  rw [List.drop_eq_getElem_cons hil]
  refine .step (fun m => ?_) ((ih (i + 1) (o ++ [l[i].2]) (by omega) (by rw [List.length_append, List.length_singleton]; omega)).of_eq (by simp only [scrS, List.map_cons, List.append_assoc, List.cons_append, List.nil_append]))
  dsimp only [run_q2k]
  unfold s_q2k_3b eat
  rw [br_pos (by omega), br_pos (by omega), Int.toNat_natCast, getD_of _ hil, br_pos (by simp only [List.length_cons, List.length_nil, lim]; omega), wr _ (by omega) (by omega)]
  rfl

theorem rscr_eq {R : Type} {k K O : Int} {l : List Ent} (hl : l.length ≤ 1000000) (K0 : List (Int × (List Int × List Int)) -> Option R) : l_q2k k K O l K0 K0 = K0 (scrS l) := by
 unfold l_q2k
 cases l with
 |nil =>
  refine evl_eq (.step (F := fun m => e_q2k (run_q2k K0 K0 m).1 (run_q2k K0 K0 m).2 K0 K0 k K O []) (G := fun m => K0 []) (fun m => ?_) (.now fun m => rfl))
  unfold e_q2k
  dsimp only [run_q2k]
  unfold s_q2k_3a eat
  rw [br_neg (by simp)]
 |cons x xs =>
  have h1 : (0 : Nat) < (x :: xs).length := by simp
  refine evl_eq (.step (fun m => ?_) ((rscr_go (k := k) (K := K) (O := O) hl K0 K0 xs.length 1 [x.2] (by rw [List.length_cons]; omega) (by simp)).of_eq (by simp [scrS])))
  unfold e_q2k
  dsimp only [run_q2k]
  unfold s_q2k_3a eat
  rw [br_pos (by omega), br_pos (by omega), br_pos (by simp [lim])]
  rfl

abbrev LT_q2l := {R : Type} -> (List (Int × (List Int × List Int))) -> (List (Int × (List Int × List Int))) -> (Bool -> Option R) -> Option R
abbrev GT_q2l_4 (R : Type) := (List (Int × (List Int × List Int))) -> (List (Int × (List Int × List Int))) -> Int -> Option R
abbrev gs_q2l_4 (l_q2b : LT_q2b) {R : Type} (g31_4 : GT_q2l_4 R) (K0 : Bool -> Option R) (a b : List (Int × (List Int × List Int))) (i : Int) : Option R :=
 bi (decide (i < (a.length : Int))) (bi (decide (0 ≤ i ∧ i < ((a.length : Nat) : Int))) (bi (decide (0 ≤ i ∧ i < ((b.length : Nat) : Int))) (bi (((a.getD i.toNat (0, ([], []))).1) != ((b.getD i.toNat (0, ([], []))).1)) (K0 false) (bi (decide (0 ≤ i ∧ i < ((a.length : Nat) : Int))) (bi (decide (0 ≤ i ∧ i < ((b.length : Nat) : Int)))
 (l_q2b (((a.getD i.toNat (0, ([], []))).2).1) (((b.getD i.toNat (0, ([], []))).2).1) (fun r1 => bi (!r1) (K0 false) (bi (decide (0 ≤ i ∧ i < ((a.length : Nat) : Int))) (bi (decide (0 ≤ i ∧ i < ((b.length : Nat) : Int))) (twice (l_q2b (((a.getD i.toNat (0, ([], []))).2).2) (((b.getD i.toNat (0, ([], []))).2).2) (fun r2 => bi (!r2) (K0 false)
 (g31_4 a b (IntKind.i64.wrap (i + 1)))))) none) none))) none) none)) none) none) (K0 true)

def s_q2l_4 {R : Type} := @gs_q2l_4 @l_q2b R

abbrev ge_q2l (l_q2b : LT_q2b) {R : Type} (g31_4 : GT_q2l_4 R) (K0 : Bool -> Option R) (a b : List (Int × (List Int × List Int))) : Option R :=
 bi ((a.length : Int) != (b.length : Int)) (K0 false) (g31_4 a b 0)

def e_q2l {R : Type} := @ge_q2l @l_q2b R

def run_q2l {R : Type} (K0 : Bool -> Option R) : Nat -> GT_q2l_4 R
 |0 => fun _ _ _ => none
 |n + 1 => s_q2l_4 (run_q2l K0 n) K0

def shortA (l : List (Int × (List Int × List Int))) : Bool := decide (l.length < 4611686018427387904) && l.all fun e => decide (short e.2.1) && decide (short e.2.2)

def l_q2l {R : Type} (a : List (Int × (List Int × List Int))) (b : List (Int × (List Int × List Int))) (K0 : Bool -> Option R) : Option R :=
 bi (shortA a) (K0 (decide (a = b))) none

theorem sameA_run {R : Type} {a b : List (Int × (List Int × List Int))} (hs : shortA a = true) (hl : a.length = b.length) (K0 : Bool -> Option R) :
  ∀ (d i : Nat), i + d = a.length -> a.take i = b.take i -> Reach (fun m => run_q2l K0 m a b (i : Int)) (K0 (decide (a = b))) := by
 unfold shortA at hs
 rw [Bool.and_eq_true, List.all_eq_true] at hs
 have hsl : a.length < 4611686018427387904 := of_decide_eq_true hs.1
 have hse : ∀ e ∈ a, short e.2.1 ∧ short e.2.2 := fun e he => by
  have := hs.2 e he
  rw [Bool.and_eq_true] at this
  exact ⟨of_decide_eq_true this.1, of_decide_eq_true this.2⟩
 intro d
 induction d with
 |zero =>
  intro i hi ht
  have e : a = b := by
   rw [List.take_of_length_le (by omega), List.take_of_length_le (by omega)] at ht
   exact ht
  refine .now fun m => ?_
  show s_q2l_4 _ _ _ _ _ = _
  unfold s_q2l_4 gs_q2l_4
  rw [br_neg (by omega), decide_eq_true e]
 |succ d ih =>
  intro i hi ht
  have h1 : i < a.length := by omega
  have h2 : i < b.length := by omega
  have hm := hse _ (List.getElem_mem h1)
  have key : ∀ m, run_q2l K0 (m + 1) a b (i : Int) = if a[i] = b[i] then run_q2l K0 m a b ((i + 1 : Nat) : Int) else K0 false := by
   intro m
   show s_q2l_4 (run_q2l K0 m) _ _ _ _ = _
   unfold s_q2l_4 gs_q2l_4
   simp only [both_same, twice_eq, thrice_eq]
   rw [br_pos (by omega), br_pos (by omega), br_pos (by omega), br_pos (p := 0 ≤ (i : Int) ∧ (i : Int) < ((a.length : Nat) : Int)) (by omega), br_pos (p := 0 ≤ (i : Int) ∧ (i : Int) < ((b.length : Nat) : Int)) (by omega),
    br_pos (p := 0 ≤ (i : Int) ∧ (i : Int) < ((a.length : Nat) : Int)) (by omega), br_pos (p := 0 ≤ (i : Int) ∧ (i : Int) < ((b.length : Nat) : Int)) (by omega), Int.toNat_natCast, getD_of (0, ([], [])) h1, getD_of (0, ([], [])) h2, wr _ (by omega) (by omega)]
   by_cases c1 : a[i].1 = b[i].1
   ·rw [br_ne' c1, same_eq hm.1]
    try dsimp only
    by_cases c2 : a[i].2.1 = b[i].2.1
    ·rw [decide_eq_true c2, show (!true) = false from rfl, br_ff, same_eq hm.2]
     try dsimp only
     by_cases c3 : a[i].2.2 = b[i].2.2
     ·rw [decide_eq_true c3, show (!true) = false from rfl, br_ff, if_pos (Prod.ext c1 (Prod.ext c2 c3))]
      rfl
     ·rw [decide_eq_false c3, show (!false) = true from rfl, br_tt, if_neg (fun h => c3 (by rw [h]))]
    ·rw [decide_eq_false c2, show (!false) = true from rfl, br_tt, if_neg (fun h => c2 (by rw [h]))]
   ·rw [br_ne c1, if_neg (fun h => c1 (by rw [h]))]
  by_cases c : a[i] = b[i]
  ·refine .step (fun m => by rw [key, if_pos c]) (ih (i + 1) (by omega) ?_)
   rw [List.take_add_one, List.take_add_one, ht, List.getElem?_eq_getElem h1, List.getElem?_eq_getElem h2, c]
  ·refine .now fun m => ?_
   rw [key, if_neg c, decide_eq_false]
   intro h
   exact c (by simp only [h])

theorem ok_q2l {R : Type} (a : List (Int × (List Int × List Int))) (b : List (Int × (List Int × List Int))) (K0 : Bool -> Option R) {r : R} (h : l_q2l a b K0 = some r) : ∃ fuel, e_q2l (run_q2l K0 fuel) K0 a b = some r := by
 unfold l_q2l at h
 rcases bi_some h with ⟨hs, h⟩ | ⟨_, h⟩
 ·rw [← h]
  unfold e_q2l ge_q2l
  by_cases hl : a.length = b.length
  ·obtain ⟨n, hn⟩ := (sameA_run hs hl K0 a.length 0 (by omega) rfl).get
   refine ⟨n, ?_⟩
   rw [br_ne' (by omega)]
   exact hn
  ·refine ⟨0, ?_⟩
   rw [br_ne (by omega), decide_eq_false]
   intro e
   exact hl (by rw [e])
 ·cases h

abbrev LT_q2m := {R : Type} -> Int -> Int -> Int -> (List Ent) -> Int -> Int -> Int -> Int -> (List Int) -> (List Int) -> (Bool -> Option R) -> Option R
abbrev gl_q2m (l_q1n : LT_q1n) (l_q2l : LT_q2l) (l_q2k : LT_q2k) (l_q2j : LT_q2j) (l_q1m : LT_q1m) (l_q2h : LT_q2h) (l_q21 : LT_q21) (l_q1o : LT_q1o) (l_q1l : LT_q1l) (l_q0 : LT_q0) (l_q1 : LT_q1) {R : Type} (l l_1 l_2 : Int) (l_3 : List Ent) (m m_1 m_2 m_3 : Int) (m_4 m_5 : List Int) (K0 : Bool -> Option R) : Option R :=
 l_q1 l l_1 l_2 l_3 300 (fun r1 => bi r1 (l_q1n (fun r2 => K0 r2)) (l_q0 m m_1 m_2 m_3 m_4 m_5 30 (fun r3 => bi r3 (l_q1n (fun r4 => K0 r4)) (l_q1l l l_1 l_2 l_3 (fun r5 r6 r7 => l_q1o l l_1 l_2 l_3 (fun r8 r9 r10 => l_q21 l l_1 l_2 l_3 m m_1 m_2 m_3 m_4 m_5 (fun r11 r12 r13 =>
 l_q2h l l_1 l_2 l_3 m m_1 m_2 m_3 m_4 m_5 (fun r14 r15 r16 => bi (r5 == r8) (bi (r6 == r9) (bi (r7 == r10) (bi (r11 == r14) (bi (r12 == r15) (l_q1m r13 (fun r17 => bi (r17 == r16) (both (twice (l_q2j l l_1 l_2 l_3 (fun r18 => l_q2k l l_1 l_2 l_3 (fun r19 => l_q2l r18 r19 (fun r20 => bi r20 (l_q1n (fun r21 => K0 r21))
 (K0 false))) (fun r22 => l_q2l r18 r22 (fun r23 => bi r23 (l_q1n (fun r24 => K0 r24)) (K0 false)))))) (l_q2j l l_1 l_2 l_3 (fun r18 => l_q2k l l_1 l_2 l_3 (fun r19 => l_q2l r18 r19 (fun r20 => bi r20 (l_q1n (fun r21 => K0 r21)) (K0 false))) (fun r22 => l_q2l r18 r22 (fun r23 => bi r23 (l_q1n (fun r24 =>
 K0 r24)) (K0 false)))))) (K0 false))) (K0 false)) (K0 false)) (K0 false)) (K0 false)) (K0 false)))))))))

def l_q2m {R : Type} := @gl_q2m @l_q1n @l_q2l @l_q2k @l_q2j @l_q1m @l_q2h @l_q21 @l_q1o @l_q1l @l_q0 @l_q1 R

theorem law_q2m {R : Type} (l l_1 l_2 : Int) (l_3 : List Ent) (m m_1 m_2 m_3 : Int) (m_4 m_5 : List Int) (K0 : Bool -> Option R) (h0 : inI l) (h1 : inI l_1) (h2 : inI l_2) (h3 : l_3.length ≤ 140737488351232 ∧ ∀ x ∈ l_3, entW x) (g0 : inI m) (g1 : inI m_1) (g2 : inI m_2) (g3 : inI m_3) (g4 : okW m_4) (g5 : okW m_5) : l_q2m l l_1 l_2 l_3 m m_1 m_2 m_3 m_4 m_5 K0 = K0 true := by
 unfold l_q2m gl_q2m
 refine lbig_two ?_ fun hl hf => ?_
 ·rw [br_tt, live27]
 ·rw [br_ff]
  by_cases hm : m_3 ≤ 30 ∧ m_4.length ≤ 70000 ∧ m_5.length ≤ 70000
  ·have o1 : okL m_4 := g4.okL (by unfold short; omega)
   have o2 : okL m_5 := g5.okL (by unfold short; omega)
   have ok := fun x hx => entW_ok (by decide) (h3.2 x hx) (hf x hx)
   rw [big_f hm, br_ff, lcnt_eq (by omega) (fun x hx => by have := (hf x hx).1; omega)]
   try dsimp only
   rw [rcnt_eq (by omega) (fun x hx => by have := (hf x hx).1; omega)]
   try dsimp only
   rw [lagr_eq o1 o2 (by omega) (fun x hx => ⟨(ok x hx).1, (ok x hx).2.2⟩)]
   try dsimp only
   rw [ragr_eq o1 o2 (by omega) (fun x hx => (ok x hx).2)]
   try dsimp only
   rw [br_eq rfl, br_eq rfl, br_eq rfl, br_eq rfl, beq_self_eq_true, br_tt]
   dsimp only [l_q1m]
   simp only [twice_eq, thrice_eq, both_same]
   rw [br_eq rfl, lscr_eq (by omega) (fun x hx => by have := (hf x hx).2; omega)]
   try dsimp only
   have sA : shortA (scrS l_3) = true := by
    unfold shortA scrS
    rw [Bool.and_eq_true, List.all_eq_true]
    refine ⟨decide_eq_true (by rw [List.length_map]; omega), fun e he => ?_⟩
    obtain ⟨x, hx, rfl⟩ := List.mem_map.1 he
    have := (hf x hx).2
    rw [Bool.and_eq_true]
    exact ⟨decide_eq_true (by unfold short; omega), decide_eq_true (by unfold short; omega)⟩
   rw [rscr_eq (by omega)]
   try dsimp only
   unfold l_q2l
   rw [sA, br_tt, decide_eq_true rfl]
   show bi true _ _ = _
   rw [br_tt, live27]
  ·rw [big_t hm, br_tt, live27]


end
end Go.Ev
