/- Functions of the program, as trees of tests over numbers and lists; no program in sight. -/
import Derived.Test.YtjjdadbbiciigaaGreatDoorLogOwnPureA
import Derived.Test.YtjjdadbbiciigaaGreatDoorPoEvMach
import Derived.Test.YtjjdadbbiciigaaGreatDoorPoEvNum
import Derived.Test.YtjjdadbbiciigaaGreatDoorPoEvBts
import Derived.Test.YtjjdadbbiciigaaGreatDoorPoEvText
import Derived.Test.YtjjdadbbiciigaaGreatDoorPoEvImp
import Derived.Test.YtjjdadbbiciigaaGreatDoorPoEvBack
import Derived.Test.YtjjdadbbiciigaaGreatDoorPoEvThere
import Derived.Test.YtjjdadbbiciigaaGreatDoorPoEvSrch
import Derived.Test.YtjjdadbbiciigaaGreatDoorPoEvLog
import Derived.Test.YtjjdadbbiciigaaGreatDoorPoEvLogD
import Derived.Test.YtjjdadbbiciigaaGreatDoorPoEvLogB
import Derived.Test.YtjjdadbbiciigaaGreatDoorPoEvDig
import Derived.Test.YtjjdadbbiciigaaGreatDoorPoEvTake
namespace Go.Ev
/- The functions by short names: q0 bytes_Count, q1 log_reader_want, q2 bytes_Equal, q3 bytes_HasPrefix, q4 log_reader_is, q5 text_Number, q6 log_reader_number, q7 log_reader_first, q8 log_query, q9 log_reader_row, qa log_reader_member, qb log_of, qc word_alphabet, qd word_Check, qe teach_of, qf teach_member_1, qg slices_IndexFunc_int_int_fteach_member_1, qh slices_IndexFunc_int_int, qi slices_ContainsFunc_int_int_fteach_member_1, qj slices_ContainsFunc_int_int, qk teach_member, ql teach_Check, qm log_asked_fault, qn machine_says, qo machine_head, qp machine_beyond, qq machine_Check, qr log_alike, qs log_tested_fault, qt bytes_Index, qu text_reader_want_none, qv text_reader_want, qw text_reader_number_fault, qx text_reader_number, qy text_reader_want_fault, qz text_reader_number_none, q10 text_reader_read_none, q11 text_reader_read, q12 errors_As_fault_nil, q13 errors_As, q14 errors_As_none_fault_nil, q15 text_Import, q16 log_reader_hypo, q17 log_Parse, q18 log_head, q19 log_of_v1, q1a log_Check, q1b strconv_AppendInt, q1c text_Put, q1d log_numbers, q1e log_asked_text, q1f text_Export, q1g slices_Grow_byte_byte, q1h slices_Concat_byte_byte, q1i log_tested_text, q1j log_Show, q1k log_Counts, q1l tutorlaw27_num, q1m tutorlaw27_live, q1n tutorref27_word, q1o tutorref08_Number, q1p tutorref27_some, q1q tutorref27_first, q1r tutorref27_row, q1s tutorref08_word, q1t tutorref08_take, q1u tutorref08_Import, q1v tutorref27_entry, q1w tutorref01_Check, q1x tutorref10_Check, q1y tutorref03_Check, q1z tutorref27_alike, q20 tutorref27_fault, q21 tutorref27_Parse, q22 tutorref01_Same, q23 tutorref03_Same, q24 tutorref10_Same, q25 tutorref27_Same, q26 slices_Clone_int_int, q27 log_Script, q28 tutorref01_Apart, q29 tutorlaw27_LogOwn -/
noncomputable section
set_option linter.unusedVariables false
set_option linter.unusedSimpArgs false
set_option maxRecDepth 100000
set_option maxHeartbeats 4000000

abbrev LT_q1o := {R : Type} -> (List Int) -> Int -> (Int -> Int -> Int -> Option R) -> Option R
abbrev GT_q1o_4 (R : Type) := (List Int) -> Int -> Int -> Option R
abbrev GT_q1o_14 (R : Type) := (List Int) -> Int -> Int -> Int -> Int -> Option R
def s_q1o_4 {R : Type} (g93_4 : GT_q1o_4 R) (g93_14 : GT_q1o_14 R) (K0 : Int -> Int -> Int -> Option R) (b : List Int) (vat k : Int) : Option R :=
 bi (decide ((IntKind.i64.wrap (vat + k)) < (b.length : Int))) (bi (decide (0 ≤ (IntKind.i64.wrap (vat + k)) ∧ (IntKind.i64.wrap (vat + k)) < ((b.length : Nat) : Int))) (bi (decide ((b.getD ((IntKind.i64.wrap (vat + k)).toNat) 0) ≥ 48)) (bi (decide (0 ≤ (IntKind.i64.wrap (vat + k)) ∧ (IntKind.i64.wrap (vat + k)) < ((b.length : Nat) : Int)))
 (bi (decide ((b.getD ((IntKind.i64.wrap (vat + k)).toNat) 0) ≤ 57)) (g93_4 b vat (IntKind.i64.wrap (k + 1))) (bi (k == 0) (K0 0 vat 6) (bi (decide (k > 1)) (bi (decide (0 ≤ vat ∧ vat < ((b.length : Nat) : Int))) (bi ((b.getD vat.toNat 0) == 48) (K0 0 (IntKind.i64.wrap (vat + 1)) 6) (bi (decide (k > 4)) (K0 0 (IntKind.i64.wrap (vat + 4)) 6) (g93_14 b vat k 0 vat))) none) (bi (decide (k > 4))
 (K0 0 (IntKind.i64.wrap (vat + 4)) 6) (g93_14 b vat k 0 vat))))) none) (bi (k == 0) (K0 0 vat 6) (bi (decide (k > 1)) (bi (decide (0 ≤ vat ∧ vat < ((b.length : Nat) : Int))) (bi ((b.getD vat.toNat 0) == 48) (K0 0 (IntKind.i64.wrap (vat + 1)) 6) (bi (decide (k > 4)) (K0 0 (IntKind.i64.wrap (vat + 4)) 6) (g93_14 b vat k 0 vat))) none) (bi (decide (k > 4)) (K0 0 (IntKind.i64.wrap (vat + 4)) 6)
 (g93_14 b vat k 0 vat))))) none) (bi (k == 0) (K0 0 vat 6) (bi (decide (k > 1)) (bi (decide (0 ≤ vat ∧ vat < ((b.length : Nat) : Int))) (bi ((b.getD vat.toNat 0) == 48) (K0 0 (IntKind.i64.wrap (vat + 1)) 6) (bi (decide (k > 4)) (K0 0 (IntKind.i64.wrap (vat + 4)) 6) (g93_14 b vat k 0 vat))) none) (bi (decide (k > 4)) (K0 0 (IntKind.i64.wrap (vat + 4)) 6) (g93_14 b vat k 0 vat))))

def s_q1o_14 {R : Type} (g93_4 : GT_q1o_4 R) (g93_14 : GT_q1o_14 R) (K0 : Int -> Int -> Int -> Option R) (b : List Int) (vat k n i : Int) : Option R :=
 bi (decide (i < (IntKind.i64.wrap (vat + k)))) (bi (decide (0 ≤ i ∧ i < ((b.length : Nat) : Int))) (g93_14 b vat k (IntKind.i64.wrap ((IntKind.i64.wrap (n * 10)) + (IntKind.i64.wrap (IntKind.u8.wrap ((b.getD i.toNat 0) - 48))))) (IntKind.i64.wrap (i + 1))) none) (K0 n (IntKind.i64.wrap (vat + k)) 0)

def e_q1o {R : Type} (g93_4 : GT_q1o_4 R) (g93_14 : GT_q1o_14 R) (K0 : Int -> Int -> Int -> Option R) (b : List Int) (vat : Int) : Option R :=
 bi (decide (vat < 0)) (K0 0 0 1) (bi (decide (vat > (b.length : Int))) (K0 0 0 1) (g93_4 b vat 0))

def run_q1o {R : Type} (K0 : Int -> Int -> Int -> Option R) : Nat -> (GT_q1o_4 R) × (GT_q1o_14 R)
 |0 => (fun _ _ _ => none, fun _ _ _ _ _ => none)
 |n + 1 => (fun r => (s_q1o_4 r.1 r.2 K0, s_q1o_14 r.1 r.2 K0)) (run_q1o K0 n)

def l_q1o {R : Type} (b : List Int) (vat : Int) (K0 : Int -> Int -> Int -> Option R) : Option R := evl fun fuel => e_q1o (run_q1o K0 fuel).1 (run_q1o K0 fuel).2 K0 b vat

theorem st_q1o_4 {R : Type} (K0 : Int -> Int -> Int -> Option R) (fuel : Nat) (b : List Int) (vat k : Int) : (run_q1o K0 (fuel + 1)).1 b vat k = s_q1o_4 (run_q1o K0 fuel).1 (run_q1o K0 fuel).2 K0 b vat k := rfl

theorem st_q1o_14 {R : Type} (K0 : Int -> Int -> Int -> Option R) (fuel : Nat) (b : List Int) (vat k n i : Int) : (run_q1o K0 (fuel + 1)).2 b vat k n i = s_q1o_14 (run_q1o K0 fuel).1 (run_q1o K0 fuel).2 K0 b vat k n i := rfl

section refnumber
variable {R : Type} {K0 : Int -> Int -> Int -> Option R} {b : List Int}

theorem rn_val (hs : short b) {a k : Nat} (hk : a + k ≤ b.length) (hd : ∀ j, a ≤ j -> (h : j < a + k) -> isDig (b[j]'(by omega))) : ∀ (d i : Nat) (j : Nat) (n : Int), i + d = a + k -> a ≤ i -> j + d ≤ 4 -> 0 ≤ n -> n < 10 ^ j →
  Reach (fun m => (run_q1o K0 m).2 b (a : Int) (k : Int) n (i : Int)) (K0 (valN (b.drop i) d n) ((a + k : Nat) : Int) 0)
 |0, i, j, n, hi, ha, hj, h0, h1 => by
  unfold short at hs
  refine .now fun m => ?_
  rw [st_q1o_14]
  unfold s_q1o_14
  rw [wr ((a : Int) + k) (by omega) (by omega), br_neg (by omega)]
  have e : valN (b.drop i) 0 n = n := by cases b.drop i <;> rfl
  rw [e]
  congr 1
 |d + 1, i, j, n, hi, ha, hj, h0, h1 => by
  have hs' := hs
  unfold short at hs'
  have hlt : i < b.length := by omega
  have hdig := hd i ha (by omega)
  unfold isDig at hdig
  have hp : (10 : Int) ^ (j + 1) = 10 ^ j * 10 := Int.pow_succ 10 j
  have hp4 : (10 : Int) ^ j ≤ 10 ^ 4 := by
   have : (10 : Nat) ^ j ≤ 10 ^ 4 := Nat.pow_le_pow_right (by decide) (by omega)
   exact_mod_cast this
  have ih := rn_val hs hk hd d (i + 1) (j + 1) (10 * n + (b[i] - 48)) (by omega) (by omega) (by omega) (by omega) (by omega)
  rw [List.drop_eq_getElem_cons hlt]
  refine .step (fun m => ?_) ih
  rw [st_q1o_14]
  unfold s_q1o_14
  rw [wr ((a : Int) + k) (by omega) (by omega), br_pos (by omega), br_pos (by omega), Int.toNat_natCast, getD_of 0 hlt, wr (n * 10) (by omega) (by omega), wr8 (b[i] - 48) (by omega) (by omega), wr (b[i] - 48) (by omega) (by omega), wr _ (by omega) (by omega), wr ((i : Int) + 1) (by omega) (by omega), Int.mul_comm n 10]
  rfl

theorem rn_run (hs : short b) {a : Nat} (ha : a ≤ b.length) : ∀ (e k : Nat), digC (b.drop (a + k)) = e -> k + e = digC (b.drop a) →
  Reach (fun m => (run_q1o K0 m).1 b (a : Int) (k : Int)) (K0 (numL (b.drop a)).1 ((a + (numL (b.drop a)).2.1 : Nat) : Int) (numL (b.drop a)).2.2) := by
 intro e
 have hs' := hs
 unfold short at hs'
 have hC := digC_le (b.drop a)
 rw [List.length_drop] at hC
 induction e with
 |zero =>
  intro k he hk
  have hkC : digC (b.drop a) = k := by omega
  have stop : Reach (fun m => bi ((k : Int) == 0) (K0 0 (a : Int) 6)
    (bi (decide ((k : Int) > 1))
     (bi (decide (0 ≤ (a : Int) ∧ (a : Int) < ((b.length : Nat) : Int)))
     (bi ((b.getD (a : Int).toNat 0) == 48)
      (K0 0 (IntKind.i64.wrap ((a : Int) + 1)) 6)
      (bi (decide ((k : Int) > 4))
      (K0 0 (IntKind.i64.wrap ((a : Int) + 4)) 6)
      ((run_q1o K0 m).2 b (a : Int) (k : Int) 0 (a : Int))))
     none)
     (bi (decide ((k : Int) > 4))
     (K0 0 (IntKind.i64.wrap ((a : Int) + 4)) 6)
     ((run_q1o K0 m).2 b (a : Int) (k : Int) 0 (a : Int))))) (K0 (numL (b.drop a)).1 ((a + (numL (b.drop a)).2.1 : Nat) : Int) (numL (b.drop a)).2.2) := by
   rw [numL_count, hkC]
   have val : 4 ≥ k -> Reach (fun m => (run_q1o K0 m).2 b (a : Int) (k : Int) 0 (a : Int)) (K0 (valN (b.drop a) k 0) ((a + k : Nat) : Int) 0) := fun h4 =>
    rn_val hs (by omega) (fun j h1 h2 => by
     have := digC_dig (b.drop a) (j - a) (by rw [List.length_drop]; omega) (by omega)
     rw [List.getElem_drop] at this
     have e : a + (j - a) = j := by omega
     simp only [e] at this
     exact this) k a 0 0 (by omega) (by omega) (by omega) (by omega) (by decide)
   have hg : (b.drop a).getD 0 0 = b.getD a 0 := by
    rw [List.getD_eq_getElem?_getD, List.getD_eq_getElem?_getD, List.getElem?_drop, Nat.add_zero]
   by_cases c0 : k = 0
   ·refine .now fun m => ?_
    rw [if_pos c0, br_eq (by omega)]
    rfl
   ·rw [if_neg c0]
    by_cases c1 : 1 < k ∧ b.getD a 0 = 48
    ·refine .now fun m => ?_
     rw [hg, if_pos c1, br_eq' (by omega), br_pos (by omega), br_pos (by omega), Int.toNat_natCast, br_eq c1.2, wr ((a : Int) + 1) (by omega) (by omega)]
     rfl
    ·rw [hg, if_neg c1]
     by_cases c4 : 4 < k
     ·refine .now fun m => ?_
      rw [if_pos c4, br_eq' (by omega), br_pos (by omega), br_pos (by omega), Int.toNat_natCast, br_eq' (fun h => c1 ⟨by omega, h⟩), br_pos (by omega), wr ((a : Int) + 4) (by omega) (by omega)]
      rfl
     ·rw [if_neg c4]
      refine .same (fun m => ?_) (val (by omega))
      rw [br_eq' (by omega)]
      by_cases c2 : 1 < k
      ·rw [br_pos (by omega), br_pos (by omega), Int.toNat_natCast, br_eq' (fun h => c1 ⟨c2, h⟩), br_neg (by omega)]
      ·rw [br_neg (by omega), br_neg (by omega)]
  by_cases hend : a + k = b.length
  ·refine .step (fun m => ?_) stop
   rw [st_q1o_4]
   unfold s_q1o_4
   rw [wr ((a : Int) + k) (by omega) (by omega), br_neg (by omega)]
  ·have hlt : a + k < b.length := by omega
   rw [List.drop_eq_getElem_cons hlt] at he
   simp only [digC] at he
   have hnd : ¬ isDig b[a + k] := by
    intro h
    rw [if_pos h] at he
    omega
   unfold isDig at hnd
   refine .step (fun m => ?_) stop
   rw [st_q1o_4]
   unfold s_q1o_4
   rw [wr ((a : Int) + k) (by omega) (by omega), br_pos (by omega), br_pos (by omega), show ((a : Int) + k).toNat = a + k by omega, getD_of 0 hlt]
   by_cases c : b[a + k] ≥ 48
   ·rw [br_pos c, br_pos (by omega), br_neg (by omega)]
   ·rw [br_neg c]
 |succ e ih =>
  intro k he hk
  have hlt : a + k < b.length := by omega
  rw [List.drop_eq_getElem_cons hlt] at he
  simp only [digC] at he
  by_cases hd : isDig b[a + k]
  ·rw [if_pos hd] at he
   refine .step (fun m => ?_) (ih (k + 1) (by rw [← Nat.add_assoc]; omega) (by omega))
   unfold isDig at hd
   rw [st_q1o_4]
   unfold s_q1o_4
   rw [wr ((a : Int) + k) (by omega) (by omega), br_pos (by omega), br_pos (by omega), show ((a : Int) + k).toNat = a + k by omega, getD_of 0 hlt, br_pos hd.1, br_pos (by omega), br_pos hd.2, wr ((k : Int) + 1) (by omega) (by omega)]
   rfl
  ·rw [if_neg hd] at he
   omega

theorem rnumber8_eq (hs : short b) (vat : Int) : l_q1o b vat K0 = K0 (numS b vat).1 (numS b vat).2.1 (numS b vat).2.2 := by
 refine evl_eq ?_
 unfold numS
 by_cases c : vat < 0
 ·rw [if_pos (.inl c)]
  refine .now fun m => ?_
  unfold e_q1o
  rw [br_pos c]
 ·by_cases c2 : vat > (b.length : Int)
  ·rw [if_pos (.inr c2)]
   refine .now fun m => ?_
   unfold e_q1o
   rw [br_neg c, br_pos c2]
  ·rw [if_neg (by omega)]
   obtain ⟨a, rfl⟩ : ∃ a : Nat, vat = a := ⟨vat.toNat, by omega⟩
   refine .same (fun m => ?_) ((rn_run (K0 := K0) hs (a := a) (by omega) (digC (b.drop a)) 0 rfl (by omega)).of_eq (by rw [Int.toNat_natCast, Int.natCast_add]))
   unfold e_q1o
   rw [br_neg c, br_neg c2]
   rfl
end refnumber

abbrev LT_q1p := {R : Type} -> (List Int) -> Int -> Int -> Int -> (Int -> Int -> Int -> Option R) -> Option R
abbrev gl_q1p (l_q1o : LT_q1o) {R : Type} (b : List Int) (vat most kind : Int) (K0 : Int -> Int -> Int -> Option R) : Option R :=
 l_q1o b vat (fun r1 r2 r3 => bi (r3 != 0) (K0 0 r2 r3) (bi (decide (r1 < 1)) (K0 0 vat kind) (bi (decide (r1 > most)) (K0 0 vat kind) (K0 r1 r2 0))))

def l_q1p {R : Type} := @gl_q1p @l_q1o R

theorem rsome_eq {R : Type} {b : List Int} (hs : short b) {a : Nat} (ha : a ≤ b.length) (hi kd : Int) (K0 : Int -> Int -> Int -> Option R) :
  l_q1p b (a : Int) hi kd K0 = K0 (nuV (numbS 1 hi kd b a)) (stA (nuR (numbS 1 hi kd b a))) (stE (nuR (numbS 1 hi kd b a))) := by
 unfold l_q1p gl_q1p
 rw [rnumber8_eq hs, numS_place ha]
 try dsimp only
 unfold numbS
 by_cases h1 : (numL (b.drop a)).2.2 = 0
 ·rw [br_ne' h1, if_neg (by simpa using h1)]
  by_cases h2 : (numL (b.drop a)).1 < 1
  ·rw [br_pos h2, if_pos (.inl h2)]
   rfl
  ·rw [br_neg h2]
   by_cases h3 : (numL (b.drop a)).1 > hi
   ·rw [br_pos h3, if_pos (.inr h3)]
    rfl
   ·rw [br_neg h3, if_neg (by omega)]
    rfl
 ·rw [br_ne h1, if_pos h1]
  rfl

abbrev KT0_q1q (R : Type) := Int -> Int -> Int -> Int -> Int -> (List Ent) -> Option R
abbrev LT_q1q := {R : Type} -> (List Int) -> (KT0_q1q R) -> Option R
abbrev gl_q1q (l_q1n : LT_q1n) (l_q1p : LT_q1p) {R : Type} (b : List Int) (K0 : KT0_q1q R) : Option R :=
 bi (decide ((b.length : Int) > 4)) (bi (decide (0 ≤ (4 : Int) ∧ (4 : Int) < ((b.length : Nat) : Int))) (bi ((b.getD 4 0) == 109) (l_q1n b 0 (ByteArray.mk #[108, 111, 103, 32, 109, 101, 97, 108, 121, 32]) (fun r1 r2 => bi (r2 != 0) (K0 2 0 2 r1 r2 ([] : List Ent))
 (l_q1p b r1 64 1 (fun r3 r4 r5 => bi (r5 != 0) (K0 2 r3 2 r4 r5 ([] : List Ent)) (l_q1n b r4 (ByteArray.mk #[32]) (fun r6 r7 => bi (r7 != 0)
 (K0 2 r3 2 r6 r7 ([] : List Ent)) (l_q1p b r6 64 33 (fun r8 r9 r10 => bi (r10 != 0) (K0 2 r3 r8 r9 r10 ([] : List Ent)) (l_q1n b r9 (ByteArray.mk #[10])
 (fun r11 r12 => K0 2 r3 r8 r11 r12 ([] : List Ent))))))))))) (l_q1n b 0 (ByteArray.mk #[108, 111, 103, 32, 100, 102, 97, 32]) (fun r13 r14 => bi (r14 != 0)
 (K0 1 0 2 r13 r14 ([] : List Ent)) (l_q1p b r13 64 1 (fun r15 r16 r17 => bi (r17 != 0) (K0 1 r15 2 r16 r17 ([] : List Ent)) (l_q1n b r16 (ByteArray.mk #[10])
 (fun r18 r19 => K0 1 r15 2 r18 r19 ([] : List Ent)))))))) none) (l_q1n b 0 (ByteArray.mk #[108, 111, 103, 32, 100, 102, 97, 32]) (fun r20 r21 => bi (r21 != 0)
 (K0 1 0 2 r20 r21 ([] : List Ent)) (l_q1p b r20 64 1 (fun r22 r23 r24 => bi (r24 != 0) (K0 1 r22 2 r23 r24 ([] : List Ent)) (l_q1n b r23 (ByteArray.mk #[10])
 (fun r25 r26 => K0 1 r22 2 r25 r26 ([] : List Ent)))))))

def l_q1q {R : Type} := @gl_q1q @l_q1n @l_q1p R

theorem wantS_app {b : List Int} : ∀ (s t : List Int) (a : Nat), wantS (s ++ t) b a = bindR (wantS s b a) (wantS t b)
 |[], t, a => rfl
 |c :: s, t, a => by
  rw [List.cons_append]
  unfold wantS
  by_cases h : b[a]? = some c
  ·rw [if_pos h, if_pos h]
   exact wantS_app s t (a + 1)
  ·rw [if_neg h, if_neg h]
   rfl

/-- What the document says of the first line. -/
theorem rfirst_eq {R : Type} {b : List Int} (hs : short b) (K0 : Int -> Int -> Int -> Int -> Int -> List Ent -> Option R) (hK : ∀ k K O k' K' O' p e : Int, e ≠ 0 -> K0 k K O p e [] = K0 k' K' O' p e []) :
  l_q1q b K0 = K0 (firstL b (.inr 0)).1 (firstL b (.inr 0)).2.1 (firstL b (.inr 0)).2.2.1 (stA (firstL b (.inr 0)).2.2.2) (stE (firstL b (.inr 0)).2.2.2) [] := by
 have bad : ∀ {r : Rd Nat} {f : Int × Int}, okR b r -> r = .inl f -> f.1 ≠ 0 := fun h e => by rw [e] at h; exact h
 have hdfa : l_q1n b 0 (ByteArray.mk #[108, 111, 103, 32, 100, 102, 97, 32]) (fun r20 r21 => bi (r21 != 0) (K0 1 0 2 r20 r21 []) (l_q1p b r20 64 1 (fun r22 r23 r24 => bi (r24 != 0) (K0 1 r22 2 r23 r24 []) (l_q1n b r23 (ByteArray.mk #[10]) (fun r25 r26 => K0 1 r22 2 r25 r26 []))))) =
   K0 1 (nuV (nmb 64 1 b (wnt [100, 102, 97, 32] b (wantS [108, 111, 103, 32] b 0)))) 2 (stA (wnt [10] b (nuR (nmb 64 1 b (wnt [100, 102, 97, 32] b (wantS [108, 111, 103, 32] b 0)))))) (stE (wnt [10] b (nuR (nmb 64 1 b (wnt [100, 102, 97, 32] b (wantS [108, 111, 103, 32] b 0)))))) [] := by
  have ok1 := wantS_st (b := b) [108, 111, 103, 32, 100, 102, 97, 32] 0 (Nat.zero_le _)
  rw [show (0 : Int) = ((0 : Nat) : Int) from rfl, rw27_eq hs (by decide) (Nat.zero_le _), show bts (ByteArray.mk #[108, 111, 103, 32, 100, 102, 97, 32]) = [108, 111, 103, 32, 100, 102, 97, 32] from rfl]
  try dsimp only
  rw [show wnt [100, 102, 97, 32] b (wantS [108, 111, 103, 32] b 0) = wantS [108, 111, 103, 32, 100, 102, 97, 32] b 0 from (wantS_app [108, 111, 103, 32] [100, 102, 97, 32] 0).symm]
  cases h1 : wantS [108, 111, 103, 32, 100, 102, 97, 32] b 0 with
  |inl f =>
   have hf := bad ok1 h1
   show bi (f.1 != 0) _ _ = _
   rw [br_ne hf]
   exact hK _ _ _ _ _ _ _ _ hf
  |inr a =>
   rw [h1] at ok1
   have ha : a ≤ b.length := ok1
   show bi ((0 : Int) != 0) _ (l_q1p b (a : Int) 64 1 _) = _
   rw [br_ne' rfl, rsome_eq hs ha]
   have ok2 := nu_ok (lo := 1) (hi := 64) (kd := 1) (by decide) ha
   show _ = K0 1 (nuV (numbS 1 64 1 b a)) 2 (stA (wnt [10] b (nuR (numbS 1 64 1 b a)))) (stE (wnt [10] b (nuR (numbS 1 64 1 b a)))) []
   cases h2 : numbS 1 64 1 b a with
   |inl f =>
    rw [h2] at ok2
    have hf : f.1 ≠ 0 := ok2
    show bi (f.1 != 0) _ _ = _
    rw [br_ne hf]
    rfl
   |inr q =>
    rw [h2] at ok2
    have hq : q.2 ≤ b.length := ok2
    show bi ((0 : Int) != 0) _ (l_q1n b (q.2 : Int) _ _) = _
    rw [br_ne' rfl, rw27_eq hs (by decide) hq]
    rfl
 unfold l_q1q gl_q1q
 have okA := wantS_st (b := b) [108, 111, 103, 32] 0 (Nat.zero_le _)
 have e4 : ∀ {a : Nat}, wantS [108, 111, 103, 32] b 0 = .inr a -> a = 4 := fun h => by
  have := (wantS_ok h).1
  simp only [List.length_cons, List.length_nil] at this
  omega
 by_cases c4 : b[4]? = some 109
 ·obtain ⟨l4, v4⟩ := List.getElem?_eq_some_iff.1 c4
  rw [br_pos (by omega), br_pos (by omega), getD_of 0 l4, br_eq v4]
  have ok1 := wantS_st (b := b) [108, 111, 103, 32, 109, 101, 97, 108, 121, 32] 0 (Nat.zero_le _)
  rw [show (0 : Int) = ((0 : Nat) : Int) from rfl, rw27_eq hs (by decide) (Nat.zero_le _), show bts (ByteArray.mk #[108, 111, 103, 32, 109, 101, 97, 108, 121, 32]) = [108, 111, 103, 32, 109, 101, 97, 108, 121, 32] from rfl]
  try dsimp only
  have eapp := wantS_app (b := b) [108, 111, 103, 32] [109, 101, 97, 108, 121, 32] 0
  simp only [List.cons_append, List.nil_append] at eapp
  cases hA : wantS [108, 111, 103, 32] b 0 with
  |inl f =>
   have hf := bad okA hA
   rw [hA] at eapp
   rw [eapp]
   have e1 : firstL b (.inr 0) = (1, 0, 2, .inl f) := by
    unfold firstL
    rw [show wnt [108, 111, 103, 32] b (.inr 0) = .inl f from hA]
    rfl
   rw [e1]
   show bi (f.1 != 0) _ _ = _
   rw [br_ne hf]
   exact hK _ _ _ _ _ _ _ _ hf
  |inr a =>
   obtain rfl := e4 hA
   rw [hA] at eapp
   have eapp : wantS [108, 111, 103, 32, 109, 101, 97, 108, 121, 32] b 0 = wantS [109, 101, 97, 108, 121, 32] b 4 := eapp
   have e5 : wantS [109, 101, 97, 108, 121, 32] b 4 = wantS [101, 97, 108, 121, 32] b 5 := by
    conv => lhs; unfold wantS
    rw [if_pos c4]
   have t109 : (b.drop 4).take 1 = [109] := by
    rw [List.drop_eq_getElem_cons l4, v4]
    rfl
   have e1 : firstL b (.inr 0) = (2, nuV (nmb 64 1 b (wantS [101, 97, 108, 121, 32] b 5)), nuV (nmb 64 33 b (wnt [32] b (nuR (nmb 64 1 b (wantS [101, 97, 108, 121, 32] b 5))))), wnt [10] b (nuR (nmb 64 33 b (wnt [32] b (nuR (nmb 64 1 b (wantS [101, 97, 108, 121, 32] b 5))))))) := by
    have i1 : isS [109] b (.inr 4) = true := decide_eq_true t109
    have i2 : isR [109] b (.inr 4) = .inr 5 := if_pos t109
    unfold firstL
    rw [show wnt [108, 111, 103, 32] b (.inr 0) = .inr 4 from hA, i1, i2]
    rfl
   rw [e1]
   rw [eapp, e5] at ok1 ⊢
   cases h1 : wantS [101, 97, 108, 121, 32] b 5 with
   |inl f =>
    have hf := bad ok1 h1
    show bi (f.1 != 0) _ _ = _
    rw [br_ne hf]
    exact hK _ _ _ _ _ _ _ _ hf
   |inr a =>
    rw [h1] at ok1
    have ha : a ≤ b.length := ok1
    show bi ((0 : Int) != 0) _ (l_q1p b (a : Int) 64 1 _) = _
    rw [br_ne' rfl, rsome_eq hs ha]
    have ok2 := nu_ok (lo := 1) (hi := 64) (kd := 1) (by decide) ha
    show _ = K0 2 (nuV (numbS 1 64 1 b a)) (nuV (nmb 64 33 b (wnt [32] b (nuR (numbS 1 64 1 b a))))) (stA (wnt [10] b (nuR (nmb 64 33 b (wnt [32] b (nuR (numbS 1 64 1 b a))))))) (stE (wnt [10] b (nuR (nmb 64 33 b (wnt [32] b (nuR (numbS 1 64 1 b a))))))) []
    cases h2 : numbS 1 64 1 b a with
    |inl f =>
     rw [h2] at ok2
     have hf : f.1 ≠ 0 := ok2
     show bi (f.1 != 0) _ _ = _
     rw [br_ne hf]
     exact hK _ _ _ _ _ _ _ _ hf
    |inr q =>
     rw [h2] at ok2
     have hq : q.2 ≤ b.length := ok2
     show bi ((0 : Int) != 0) _ (l_q1n b (q.2 : Int) _ _) = _
     rw [br_ne' rfl, rw27_eq hs (by decide) hq]
     have ok3 := wantS_st (b := b) [32] q.2 hq
     show bi (stE (wantS [32] b q.2) != 0) _ _ = K0 2 q.1 (nuV (nmb 64 33 b (wantS [32] b q.2))) (stA (wnt [10] b (nuR (nmb 64 33 b (wantS [32] b q.2))))) (stE (wnt [10] b (nuR (nmb 64 33 b (wantS [32] b q.2))))) []
     rw [show bts (ByteArray.mk #[32]) = [32] from rfl]
     cases h3 : wantS [32] b q.2 with
     |inl f =>
      have hf := bad ok3 h3
      show bi (f.1 != 0) _ _ = _
      rw [br_ne hf]
      exact hK _ _ _ _ _ _ _ _ hf
     |inr d =>
      rw [h3] at ok3
      have hd : d ≤ b.length := ok3
      show bi ((0 : Int) != 0) _ (l_q1p b (d : Int) 64 33 _) = _
      rw [br_ne' rfl, rsome_eq hs hd]
      have ok4 := nu_ok (lo := 1) (hi := 64) (kd := 33) (by decide) hd
      show _ = K0 2 q.1 (nuV (numbS 1 64 33 b d)) (stA (wnt [10] b (nuR (numbS 1 64 33 b d)))) (stE (wnt [10] b (nuR (numbS 1 64 33 b d)))) []
      cases h4 : numbS 1 64 33 b d with
      |inl f =>
       rw [h4] at ok4
       have hf : f.1 ≠ 0 := ok4
       show bi (f.1 != 0) _ _ = _
       rw [br_ne hf]
       rfl
      |inr p =>
       rw [h4] at ok4
       have hp : p.2 ≤ b.length := ok4
       show bi ((0 : Int) != 0) _ (l_q1n b (p.2 : Int) _ _) = _
       rw [br_ne' rfl, rw27_eq hs (by decide) hp]
       rfl
 ·have e1 : firstL b (.inr 0) = (1, nuV (nmb 64 1 b (wnt [100, 102, 97, 32] b (wantS [108, 111, 103, 32] b 0))), 2, wnt [10] b (nuR (nmb 64 1 b (wnt [100, 102, 97, 32] b (wantS [108, 111, 103, 32] b 0))))) := by
   have i1 : isS [109] b (wantS [108, 111, 103, 32] b 0) = false := by
    cases hA : wantS [108, 111, 103, 32] b 0 with
    |inl f => rfl
    |inr a =>
     obtain rfl := e4 hA
     show decide ((b.drop 4).take 1 = [109]) = false
     rw [decide_eq_false]
     intro h
     refine c4 ?_
     cases hd : b.drop 4 with
     |nil => rw [hd] at h; cases h
     |cons x r =>
      rw [hd] at h
      have hx : x = 109 := (List.cons.inj h).1
      have : (b.drop 4)[0]? = some x := by rw [hd]; rfl
      rwa [List.getElem?_drop, hx] at this
   have i2 : isR [109] b (wantS [108, 111, 103, 32] b 0) = wantS [108, 111, 103, 32] b 0 := isR_no (by rw [i1]; decide)
   unfold firstL
   rw [show wnt [108, 111, 103, 32] b (.inr 0) = wantS [108, 111, 103, 32] b 0 from rfl, i1, i2]
   rfl
  rw [e1, ← hdfa]
  by_cases l4 : (b.length : Int) > 4
  ·have hl : 4 < b.length := by omega
   have v4 : b[4] ≠ 109 := fun e => c4 (by rw [List.getElem?_eq_getElem hl, e])
   rw [br_pos l4, br_pos (by omega), getD_of 0 hl, br_eq' v4]
  ·rw [br_neg l4]

abbrev LT_q1r := {R : Type} -> (List Int) -> Int -> Bool -> (Int -> Int -> (List Int) -> Option R) -> Option R
abbrev GT_q1r_2 (R : Type) := (List Int) -> Int -> Bool -> (List Int) -> Option R
abbrev gs_q1r_2 (l_q1o : LT_q1o) {R : Type} (g74_2 : GT_q1r_2 R) (K0 : Int -> Int -> (List Int) -> Option R) (b : List Int) (vat : Int) (equal : Bool) (o0 : List Int) : Option R :=
 bi (decide (vat < (b.length : Int))) (bi (decide (0 ≤ vat ∧ vat < ((b.length : Nat) : Int))) (bi ((b.getD vat.toNat 0) == 32) (bi equal (bi (decide ((IntKind.i64.wrap (vat + 1)) < (b.length : Int))) (bi (decide (0 ≤ (IntKind.i64.wrap (vat + 1)) ∧ (IntKind.i64.wrap (vat + 1)) < ((b.length : Nat) : Int))) (bi (!((b.getD ((IntKind.i64.wrap (vat + 1)).toNat) 0) == 61))
 (l_q1o b (IntKind.i64.wrap (vat + 1)) (fun r1 r2 r3 => bi (r3 != 0) (K0 r2 r3 ([] : List Int)) (bi (decide ((o0.length + [r1].length) * 8 ≤ lim)) (g74_2 b r2 equal (o0 ++ [r1])) none))) (K0 vat 0 o0)) none) (l_q1o b (IntKind.i64.wrap (vat + 1)) (fun r4 r5 r6 => bi (r6 != 0) (K0 r5 r6 ([] : List Int)) (bi (decide ((o0.length + [r4].length) * 8 ≤ lim))
 (g74_2 b r5 equal (o0 ++ [r4])) none)))) (l_q1o b (IntKind.i64.wrap (vat + 1)) (fun r7 r8 r9 => bi (r9 != 0) (K0 r8 r9 ([] : List Int)) (bi (decide ((o0.length + [r7].length) * 8 ≤ lim)) (g74_2 b r8 equal (o0 ++ [r7])) none)))) (K0 vat 0 o0)) none) (K0 vat 0 o0)

def s_q1r_2 {R : Type} := @gs_q1r_2 @l_q1o R

abbrev ge_q1r (l_q1o : LT_q1o) {R : Type} (g74_2 : GT_q1r_2 R) (K0 : Int -> Int -> (List Int) -> Option R) (b : List Int) (vat : Int) (equal : Bool) : Option R :=
 g74_2 b vat equal ([] : List Int)

def e_q1r {R : Type} := @ge_q1r @l_q1o R

def run_q1r {R : Type} (K0 : Int -> Int -> (List Int) -> Option R) : Nat -> GT_q1r_2 R
 |0 => fun _ _ _ _ => none
 |n + 1 => s_q1r_2 (run_q1r K0 n) K0

def l_q1r {R : Type} (b : List Int) (vat : Int) (equal : Bool) (K0 : Int -> Int -> (List Int) -> Option R) : Option R := evl fun fuel => e_q1r (run_q1r K0 fuel) K0 b vat equal

theorem rrow_go {R : Type} {b : List Int} (hs : b.length ≤ 17000000) (eq : Bool) (K0 : Int -> Int -> List Int -> Option R) :
  ∀ (n a : Nat) (acc : List Int), b.length + 1 ≤ n + a -> acc.length ≤ b.length -> acc.length ≤ a -> Reach (fun m => run_q1r K0 m b (a : Int) eq acc) (K0 (stA (roR (lrow (!eq) b n a acc))) (stE (roR (lrow (!eq) b n a acc))) (roV (lrow (!eq) b n a acc)))
 |0, a, acc, hn, hl, hla => by
  refine .now fun m => ?_
  rw [show run_q1r K0 (m + 1) = s_q1r_2 (run_q1r K0 m) K0 from rfl]
  unfold s_q1r_2 gs_q1r_2
  rw [br_neg (by omega)]
  rfl
 |n + 1, a, acc, hn, hl, hla => by
  by_cases hab : a < b.length
  ·by_cases h1 : b[a] = 32
   ·have g1 : b[a]? = some 32 := by rw [List.getElem?_eq_getElem hab, h1]
    have hle := numL_le (b.drop (a + 1))
    rw [List.length_drop] at hle
    have num : ∀ m, l_q1o b (IntKind.i64.wrap ((a : Int) + 1)) (fun r1 r2 r3 => bi (r3 != 0) (K0 r2 r3 []) (bi (decide ((acc.length + [r1].length) * 8 ≤ lim)) (run_q1r K0 m b r2 eq (acc ++ [r1])) none)) =
      if (numL (b.drop (a + 1))).2.2 ≠ 0 then K0 ((a + 1 + (numL (b.drop (a + 1))).2.1 : Nat) : Int) (numL (b.drop (a + 1))).2.2 []
      else run_q1r K0 m b ((a + 1 + (numL (b.drop (a + 1))).2.1 : Nat) : Int) eq (acc ++ [(numL (b.drop (a + 1))).1]) := fun m => by
     rw [wr _ (by omega) (by omega), show (a : Int) + 1 = ((a + 1 : Nat) : Int) from rfl, rnumber8_eq (by unfold short; omega), numS_place (by omega)]
     try dsimp only
     by_cases h : (numL (b.drop (a + 1))).2.2 ≠ 0
     ·rw [br_ne h, if_pos h]
     ·rw [br_ne' (Decidable.not_not.1 h), if_neg h, br_pos (by simp only [List.length_cons, List.length_nil, lim]; omega)]
    by_cases h2 : eq = true ∧ b[a + 1]? = some 61
    ·obtain ⟨rfl, h61⟩ := h2
     refine .now fun m => ?_
     rw [show run_q1r K0 (m + 1) = s_q1r_2 (run_q1r K0 m) K0 from rfl]
     have hlt := (List.getElem?_eq_some_iff.1 h61).1
     have hv := (List.getElem?_eq_some_iff.1 h61).2
     unfold s_q1r_2 gs_q1r_2 lrow
     rw [br_pos (by omega), br_pos (by omega), Int.toNat_natCast, getD_of 0 hab, br_eq h1, br_tt, wr _ (by omega) (by omega), br_pos (by omega), br_pos (by omega), show ((a : Int) + 1).toNat = a + 1 by omega, getD_of 0 hlt, hv, if_neg (fun q => q.2 ⟨rfl, h61⟩)]
     rfl
    ·have key : ∀ m, run_q1r K0 (m + 1) b (a : Int) eq acc = l_q1o b (IntKind.i64.wrap ((a : Int) + 1)) (fun r1 r2 r3 => bi (r3 != 0) (K0 r2 r3 []) (bi (decide ((acc.length + [r1].length) * 8 ≤ lim)) (run_q1r K0 m b r2 eq (acc ++ [r1])) none)) := fun m => by
      rw [show run_q1r K0 (m + 1) = s_q1r_2 (run_q1r K0 m) K0 from rfl]
      unfold s_q1r_2 gs_q1r_2
      rw [br_pos (by omega), br_pos (by omega), Int.toNat_natCast, getD_of 0 hab, br_eq h1]
      cases eq with
      |false => rfl
      |true =>
       rw [br_tt]
       by_cases h3 : a + 1 < b.length
       ·have h4 : b[a + 1] ≠ 61 := fun e => h2 ⟨rfl, by rw [List.getElem?_eq_getElem h3, e]⟩
        rw [wr ((a : Int) + 1) (by omega) (by omega), br_pos (by omega), br_pos (by omega), show ((a : Int) + 1).toNat = a + 1 by omega, getD_of 0 h3, show (b[a + 1] == 61) = false from beq_eq_false_iff_ne.2 h4]
        rfl
       ·rw [wr ((a : Int) + 1) (by omega) (by omega), br_neg (by omega)]
     unfold lrow
     rw [if_pos (⟨g1, fun q => h2 ⟨by simpa using q.1, q.2⟩⟩ : b[a]? = some 32 ∧ ¬ ((!eq) = false ∧ b[a + 1]? = some 61))]
     by_cases h : (numL (b.drop (a + 1))).2.2 ≠ 0
     ·rw [if_pos h]
      refine .now fun m => ?_
      rw [key, num, if_pos h]
      rfl
     ·rw [if_neg h]
      refine .step (fun m => ?_) (rrow_go hs eq K0 n (a + 1 + (numL (b.drop (a + 1))).2.1) (acc ++ [(numL (b.drop (a + 1))).1]) (by omega) (by rw [List.length_append, List.length_singleton]; omega) (by rw [List.length_append, List.length_singleton]; omega))
      rw [key, num, if_neg h]
   ·refine .now fun m => ?_
    rw [show run_q1r K0 (m + 1) = s_q1r_2 (run_q1r K0 m) K0 from rfl]
    unfold s_q1r_2 gs_q1r_2 lrow
    rw [br_pos (by omega), br_pos (by omega), Int.toNat_natCast, getD_of 0 hab, br_eq' h1, if_neg (by rw [List.getElem?_eq_getElem hab]; simp [h1])]
    rfl
  ·refine .now fun m => ?_
   rw [show run_q1r K0 (m + 1) = s_q1r_2 (run_q1r K0 m) K0 from rfl]
   unfold s_q1r_2 gs_q1r_2 lrow
   rw [br_neg (by omega), if_neg (by rw [List.getElem?_eq_none (by omega)]; simp)]
   rfl

theorem rrow_eq {R : Type} {b : List Int} (hs : b.length ≤ 17000000) (eq : Bool) {a : Nat} (ha : a ≤ b.length) (K0 : Int -> Int -> List Int -> Option R) :
  l_q1r b (a : Int) eq K0 = K0 (stA (roR (rowR (!eq) b (.inr a)))) (stE (roR (rowR (!eq) b (.inr a)))) (roV (rowR (!eq) b (.inr a))) :=
 evl_eq (.same (fun m => rfl) (rrow_go hs eq K0 (b.length + 1 - a) a [] (by omega) (by simp) (by simp)))

abbrev LT_q1s := {R : Type} -> (List Int) -> Int -> ByteArray -> (Int -> Int -> Option R) -> Option R
abbrev GT_q1s_2 (R : Type) := (List Int) -> Int -> ByteArray -> Int -> Option R
def s_q1s_2 {R : Type} (g110_2 : GT_q1s_2 R) (K0 : Int -> Int -> Option R) (b : List Int) (vat : Int) (s : ByteArray) (i : Int) : Option R :=
 bi (decide (i < (s.size : Int))) (bi (decide ((IntKind.i64.wrap (vat + i)) ≥ (b.length : Int))) (K0 (-1) (IntKind.i64.wrap (vat + i))) (bi (decide (0 ≤ (IntKind.i64.wrap (vat + i)) ∧ (IntKind.i64.wrap (vat + i)) < ((b.length : Nat) : Int))) (bi (decide (0 ≤ i ∧ i < ((s.size : Nat) : Int))) (bi ((b.getD ((IntKind.i64.wrap (vat + i)).toNat) 0) != ((s.data.toList.getD i.toNat 0).toNat : Int))
 (K0 (-1) (IntKind.i64.wrap (vat + i))) (g110_2 b vat s (IntKind.i64.wrap (i + 1)))) none) none)) (K0 (IntKind.i64.wrap (vat + (s.size : Int))) 0)

def e_q1s {R : Type} (g110_2 : GT_q1s_2 R) (K0 : Int -> Int -> Option R) (b : List Int) (vat : Int) (s : ByteArray) : Option R :=
 g110_2 b vat s 0

def run_q1s {R : Type} (K0 : Int -> Int -> Option R) : Nat -> GT_q1s_2 R
 |0 => fun _ _ _ _ => none
 |n + 1 => s_q1s_2 (run_q1s K0 n) K0

def l_q1s {R : Type} (b : List Int) (vat : Int) (s : ByteArray) (K0 : Int -> Int -> Option R) : Option R := evl fun fuel => e_q1s (run_q1s K0 fuel) K0 b vat s

theorem wantS_six : ∀ {s b : List Int} {a : Nat} {e : Int × Int}, wantS s b a = .inl e -> e.1 = 6
 |[], b, a, e, h => by cases h
 |x :: s, b, a, e, h => by
  unfold wantS at h
  by_cases c : b[a]? = some x
  ·rw [if_pos c] at h
   exact wantS_six h
  ·rw [if_neg c] at h
   cases h
   rfl

theorem rword_run {R : Type} {b : List Int} (hs : short b) (s : ByteArray) (hz : s.size ≤ 1000) (K0 : Int -> Int -> Option R) (a : Nat) :
  ∀ (d i : Nat), i + d = s.size -> a + i ≤ b.length →
   Reach (fun m => run_q1s K0 m b (a : Int) s (i : Int)) (match wantS ((bts s).drop i) b (a + i) with | .inl e => K0 (-1) e.2 | .inr c => K0 (c : Int) 0) := by
 have hl : (bts s).length = s.size := by simp [bts]
 unfold short at hs
 intro d
 induction d with
 |zero =>
  intro i hi ha
  refine .now fun m => ?_
  rw [show run_q1s K0 (m + 1) = s_q1s_2 (run_q1s K0 m) K0 from rfl]
  unfold s_q1s_2
  rw [br_neg (by omega), List.drop_of_length_le (by omega), wr ((a : Int) + s.size) (by omega) (by omega)]
  simp only [wantS]
  congr 1
  omega
 |succ d ih =>
  intro i hi ha
  have hlt : i < (bts s).length := by omega
  have hget : (bts s)[i] = ((s.data.toList.getD i 0).toNat : Int) := by
   simp [bts, List.getD_eq_getElem?_getD, List.getElem?_eq_getElem (show i < s.data.toList.length by simpa [bts] using hlt)]
  rw [List.drop_eq_getElem_cons hlt, hget]
  unfold wantS
  by_cases h1 : a + i = b.length
  ·refine .now fun m => ?_
   rw [show run_q1s K0 (m + 1) = s_q1s_2 (run_q1s K0 m) K0 from rfl]
   unfold s_q1s_2
   rw [wr ((a : Int) + i) (by omega) (by omega), br_pos (by omega), br_pos (by omega), if_neg (by rw [List.getElem?_eq_none (by omega)]; simp)]
   rfl
  ·have hab : a + i < b.length := by omega
   by_cases h2 : b[a + i] = ((s.data.toList.getD i 0).toNat : Int)
   ·rw [if_pos (by rw [List.getElem?_eq_getElem hab, h2])]
    refine .step (fun m => ?_) (ih (i + 1) (by omega) (by omega))
    rw [show run_q1s K0 (m + 1) = s_q1s_2 (run_q1s K0 m) K0 from rfl]
    unfold s_q1s_2
    rw [wr ((a : Int) + i) (by omega) (by omega), br_pos (by omega), br_neg (by omega), br_pos (by omega), br_pos (by omega), show ((a : Int) + i).toNat = a + i by omega, Int.toNat_natCast, getD_of 0 hab, br_ne' h2, wr ((i : Int) + 1) (by omega) (by omega)]
    rfl
   ·rw [if_neg (by rw [List.getElem?_eq_getElem hab]; simpa using h2)]
    refine .now fun m => ?_
    rw [show run_q1s K0 (m + 1) = s_q1s_2 (run_q1s K0 m) K0 from rfl]
    unfold s_q1s_2
    rw [wr ((a : Int) + i) (by omega) (by omega), br_pos (by omega), br_neg (by omega), br_pos (by omega), br_pos (by omega), show ((a : Int) + i).toNat = a + i by omega, Int.toNat_natCast, getD_of 0 hab, br_ne h2]
    rfl

theorem rword_eq {R : Type} {b : List Int} (hs : short b) {s : ByteArray} (hz : s.size ≤ 1000) (K0 : Int -> Int -> Option R) {a : Nat} (ha : a ≤ b.length) :
  l_q1s b (a : Int) s K0 = match wantS (bts s) b a with | .inl e => K0 (-1) e.2 | .inr c => K0 (c : Int) 0 :=
 evl_eq (Reach.of_eq (rword_run hs s hz K0 a s.size 0 (by omega) ha) (by rw [List.drop_zero, Nat.add_zero]))

abbrev LT_q1t := {R : Type} -> (List Int) -> Int -> (List (ByteArray × (Int × (Int × Int)))) -> (Int -> Int -> (List Int) -> Option R) -> Option R
abbrev GT_q1t_3 (R : Type) := (List Int) -> Int -> (List (ByteArray × (Int × (Int × Int)))) -> Int -> (List Int) -> Option R
abbrev gs_q1t_3 (l_q1s : LT_q1s) (l_q1o : LT_q1o) {R : Type} (g94_3 : GT_q1t_3 R) (K0 : Int -> Int -> (List Int) -> Option R) (b : List Int) (vat : Int) (l : List (ByteArray × (Int × (Int × Int)))) (i : Int) (o0 : List Int) : Option R :=
 bi (decide (i < (l.length : Int))) (bi (decide (0 ≤ i ∧ i < ((l.length : Nat) : Int))) (bi (decide ((((l.getD i.toNat (ByteArray.empty, (0, (0, 0)))).1).size : Int) > 0)) (bi (decide (0 ≤ i ∧ i < ((l.length : Nat) : Int))) (l_q1s b vat ((l.getD i.toNat (ByteArray.empty, (0, (0, 0)))).1) (fun r1 r2 => bi (decide (r1 < 0)) (K0 r2 6 ([] : List Int))
 (g94_3 b r1 l (IntKind.i64.wrap (i + 1)) o0))) none) (l_q1o b vat (fun r3 r4 r5 => bi (r5 != 0) (K0 r4 r5 ([] : List Int)) (bi (decide (0 ≤ i ∧ i < ((l.length : Nat) : Int))) (bi (decide (r3 < (((l.getD i.toNat (ByteArray.empty, (0, (0, 0)))).2).1))) (bi (decide (0 ≤ i ∧ i < ((l.length : Nat) : Int)))
 (K0 vat ((((l.getD i.toNat (ByteArray.empty, (0, (0, 0)))).2).2).2) ([] : List Int)) none) (bi (decide (0 ≤ i ∧ i < ((l.length : Nat) : Int))) (bi (decide (r3 > ((((l.getD i.toNat (ByteArray.empty, (0, (0, 0)))).2).2).1))) (bi (decide (0 ≤ i ∧ i < ((l.length : Nat) : Int))) (K0 vat ((((l.getD i.toNat (ByteArray.empty, (0, (0, 0)))).2).2).2) ([] : List Int)) none)
 (bi (decide ((o0.length + [r3].length) * 8 ≤ lim)) (g94_3 b r4 l (IntKind.i64.wrap (i + 1)) (o0 ++ [r3])) none)) none)) none)))) none) (K0 vat 0 o0)

def s_q1t_3 {R : Type} := @gs_q1t_3 @l_q1s @l_q1o R

abbrev ge_q1t (l_q1s : LT_q1s) (l_q1o : LT_q1o) {R : Type} (g94_3 : GT_q1t_3 R) (K0 : Int -> Int -> (List Int) -> Option R) (b : List Int) (vat : Int) (l : List (ByteArray × (Int × (Int × Int)))) : Option R :=
 g94_3 b vat l 0 ([] : List Int)

def e_q1t {R : Type} := @ge_q1t @l_q1s @l_q1o R

def run_q1t {R : Type} (K0 : Int -> Int -> (List Int) -> Option R) : Nat -> GT_q1t_3 R
 |0 => fun _ _ _ _ _ => none
 |n + 1 => s_q1t_3 (run_q1t K0 n) K0

def l_q1t {R : Type} (b : List Int) (vat : Int) (l : List (ByteArray × (Int × (Int × Int)))) (K0 : Int -> Int -> (List Int) -> Option R) : Option R := evl fun fuel => e_q1t (run_q1t K0 fuel) K0 b vat l

theorem take_run {R : Type} {b : List Int} (hb : b.length ≤ 16777216) (l : List Pc) (hl : l.length ≤ 1000) (hp : ∀ p ∈ l, p.1.size ≤ 1000) (K0 : Int -> Int -> List Int -> Option R) :
  ∀ (d i a : Nat) (ns : List Int), i + d = l.length -> a ≤ b.length -> ns.length ≤ i →
   Reach (fun m => run_q1t K0 m b (a : Int) l (i : Int) ns) (match takeS b (l.drop i) a ns with | .inl e => K0 e.2 e.1 [] | .inr q => K0 (q.1 : Int) 0 q.2) := by
 have hs : short b := by unfold short; omega
 intro d
 induction d with
 |zero =>
  intro i a ns hi ha hn
  refine .now fun m => ?_
  rw [show run_q1t K0 (m + 1) = s_q1t_3 (run_q1t K0 m) K0 from rfl]
  unfold s_q1t_3 gs_q1t_3
  rw [br_neg (by omega), List.drop_of_length_le (by omega)]
  rfl
 |succ d ih =>
  intro i a ns hi ha hn
  have hlt : i < l.length := by omega
  have hpz := hp l[i] (List.getElem_mem hlt)
  rw [List.drop_eq_getElem_cons hlt]
  simp only [takeS]
  by_cases hw : 0 < l[i].1.size
  ·rw [if_pos hw]
   cases hq : wantS (bts l[i].1) b a with
   |inl e =>
    refine .now fun m => ?_
    rw [show run_q1t K0 (m + 1) = s_q1t_3 (run_q1t K0 m) K0 from rfl]
    unfold s_q1t_3 gs_q1t_3
    rw [br_pos (by omega), br_pos (by omega), Int.toNat_natCast, getD_of _ hlt, br_pos (by omega), br_pos (by omega), rword_eq hs hpz _ ha, hq]
    simp only [bindR]
    rw [br_pos (by omega), wantS_six hq]
   |inr c =>
    refine .step (fun m => ?_) (ih (i + 1) c ns (by omega) (wantS_le hq ha) (by omega))
    rw [show run_q1t K0 (m + 1) = s_q1t_3 (run_q1t K0 m) K0 from rfl]
    unfold s_q1t_3 gs_q1t_3
    rw [br_pos (by omega), br_pos (by omega), Int.toNat_natCast, getD_of _ hlt, br_pos (by omega), br_pos (by omega), rword_eq hs hpz _ ha, hq]
    simp only
    rw [br_neg (by omega), wr ((i : Int) + 1) (by omega) (by omega)]
    rfl
  ·rw [if_neg hw]
   have pre : ∀ m, run_q1t K0 (m + 1) b (a : Int) l (i : Int) ns = K0 0 0 [] ∨ True := fun _ => .inr trivial
   unfold numbS
   by_cases h1 : (numL (b.drop a)).2.2 ≠ 0
   ·rw [if_pos h1]
    refine .now fun m => ?_
    rw [show run_q1t K0 (m + 1) = s_q1t_3 (run_q1t K0 m) K0 from rfl]
    unfold s_q1t_3 gs_q1t_3
    rw [br_pos (by omega), br_pos (by omega), Int.toNat_natCast, getD_of _ hlt, br_neg (by omega), rnumber8_eq hs, numS_at ha]
    simp only
    rw [br_ne h1]
    rfl
   ·rw [if_neg h1]
    have h1' := Decidable.not_not.1 h1
    by_cases h2 : (numL (b.drop a)).1 < l[i].2.1 ∨ l[i].2.2.1 < (numL (b.drop a)).1
    ·rw [if_pos h2]
     refine .now fun m => ?_
     rw [show run_q1t K0 (m + 1) = s_q1t_3 (run_q1t K0 m) K0 from rfl]
     unfold s_q1t_3 gs_q1t_3
     rw [br_pos (by omega), br_pos (by omega), Int.toNat_natCast, getD_of _ hlt, br_neg (by omega), rnumber8_eq hs, numS_at ha]
     simp only
     rw [br_ne' h1', br_pos (by omega)]
     by_cases h3 : (numL (b.drop a)).1 < l[i].2.1
     ·rw [br_pos h3, br_pos (by omega)]
      rfl
     ·rw [br_neg h3, br_pos (by omega), br_pos (show (numL (b.drop a)).1 > l[i].2.2.1 by omega), br_pos (by omega)]
      rfl
    ·rw [if_neg h2]
     simp only [bindR_inr]
     have hle := numL_le (b.drop a)
     rw [List.length_drop] at hle
     refine .step (fun m => ?_) (ih (i + 1) (a + (numL (b.drop a)).2.1) (ns ++ [(numL (b.drop a)).1]) (by omega) (by omega) (by simp; omega))
     rw [show run_q1t K0 (m + 1) = s_q1t_3 (run_q1t K0 m) K0 from rfl]
     unfold s_q1t_3 gs_q1t_3
     rw [br_pos (by omega), br_pos (by omega), Int.toNat_natCast, getD_of _ hlt, br_neg (by omega), rnumber8_eq hs, numS_at ha]
     simp only
     rw [br_ne' h1', br_pos (by omega), br_neg (show ¬ (numL (b.drop a)).1 < l[i].2.1 by omega), br_pos (by omega), br_neg (show ¬ (numL (b.drop a)).1 > l[i].2.2.1 by omega), br_pos (by simp [lim]; omega), wr ((i : Int) + 1) (by omega) (by omega)]
     rfl

theorem take_eq {R : Type} {b : List Int} (hb : b.length ≤ 16777216) {l : List Pc} (hl : l.length ≤ 1000) (hp : ∀ p ∈ l, p.1.size ≤ 1000) (K0 : Int -> Int -> List Int -> Option R) {a : Nat} (ha : a ≤ b.length) :
  l_q1t b (a : Int) l K0 = match takeS b l a [] with | .inl e => K0 e.2 e.1 [] | .inr q => K0 (q.1 : Int) 0 q.2 :=
 evl_eq (Reach.of_eq (take_run hb l hl hp K0 l.length 0 a [] (by omega) ha (by simp)) (by rw [List.drop_zero]))

abbrev KT0_q1u (R : Type) := Int -> Int -> Int -> Int -> Int -> Int -> (List Int) -> (List Int) -> Option R
abbrev LT_q1u := {R : Type} -> (List Int) -> (KT0_q1u R) -> Option R
abbrev GT_q1u_4 (R : Type) := (List Int) -> Int -> Int -> Int -> Int -> (List Int) -> (List Int) -> ByteArray -> Int -> Int -> Int -> ByteArray -> Int -> Int -> Int -> ByteArray -> Int -> Int -> Int -> Option R
abbrev GT_q1u_5 (R : Type) := (List Int) -> Int -> Int -> Int -> Int -> (List Int) -> (List Int) -> ByteArray -> Int -> Int -> Int -> ByteArray -> Int -> Int -> Int -> ByteArray -> Int -> Int -> Int -> ByteArray -> Int -> Int -> Int -> ByteArray -> Int -> Int -> Int -> Option R
abbrev GT_q1u_12 (R : Type) := (List Int) -> Int -> Int -> Int -> Int -> Int -> Int -> (List Int) -> (List Int) -> ByteArray -> Int -> Int -> Int -> ByteArray -> Int -> Int -> Int -> Int -> Int -> Int -> Int -> (List Int) -> (List Int) -> (List Int) -> Option R
abbrev GT_q1u_14 (R : Type) := (List Int) -> Int -> Int -> Int -> Int -> Int -> (List Int) -> (List Int) -> ByteArray -> Int -> Int -> Int -> ByteArray -> Int -> Int -> Int -> Int -> Int -> Int -> Int -> (List Int) -> (List Int) -> (List Int) -> Option R
abbrev GT_q1u_17 (R : Type) := (List Int) -> Int -> Int -> Int -> Int -> Int -> (List Int) -> (List Int) -> ByteArray -> Int -> Int -> Int -> ByteArray -> Int -> Int -> Int -> Int -> Int -> Int -> Int -> (List Int) -> (List Int) -> Option R
abbrev GT_q1u_18 (R : Type) := (List Int) -> Int -> Int -> Int -> Int -> Int -> (List Int) -> (List Int) -> ByteArray -> Int -> Int -> Int -> ByteArray -> Int -> Int -> Int -> Int -> Int -> Int -> Int -> (List Int) -> (List Int) -> ByteArray -> Int -> Int -> Int -> ByteArray -> Int -> Int -> Int -> Option R
abbrev GT_q1u_20 (R : Type) := (List Int) -> Int -> Int -> Int -> Int -> Int -> Int -> (List Int) -> (List Int) -> ByteArray -> Int -> Int -> Int -> ByteArray -> Int -> Int -> Int -> Int -> Int -> Int -> Int -> (List Int) -> (List Int) -> ByteArray -> Int -> Int -> Int -> ByteArray -> Int -> Int -> Int -> (List (ByteArray × (Int × (Int × Int)))) -> Option R
abbrev GT_q1u_24 (R : Type) := (List Int) -> Int -> Int -> Int -> Int -> Int -> Int -> (List Int) -> (List Int) -> ByteArray -> Int -> Int -> Int -> ByteArray -> Int -> Int -> Int -> Int -> Int -> Int -> Int -> (List Int) -> (List Int) -> ByteArray -> Int -> Int -> Int -> ByteArray -> Int -> Int -> Int -> (List (ByteArray × (Int × (Int × Int)))) -> Option R
abbrev GT_q1u_31 (R : Type) := (List Int) -> Int -> Int -> Int -> Int -> Int -> Int -> (List Int) -> (List Int) -> Int -> Int -> Int -> Int -> (List Int) -> (List Int) -> (List (ByteArray × (Int × (Int × Int)))) -> Option R
abbrev GT_q1u_26 (R : Type) := (List Int) -> Int -> Int -> Int -> Int -> Int -> Int -> (List Int) -> (List Int) -> ByteArray -> Int -> Int -> Int -> ByteArray -> Int -> Int -> Int -> Int -> Int -> Int -> Int -> (List Int) -> (List Int) -> ByteArray -> Int -> Int -> Int -> ByteArray -> Int -> Int -> Int -> (List (ByteArray × (Int × (Int × Int)))) -> Option R
abbrev GT_q1u_41a (R : Type) := (List Int) -> Int -> Int -> Nat -> Int -> Int -> Int -> Int -> Int -> (List Int) -> (List Int) -> Int -> Int -> Int -> Int -> (List Int) -> (List Int) -> (List (ByteArray × (Int × (Int × Int)))) -> (List Int) -> Option R
abbrev GT_q1u_41b (R : Type) := (List Int) -> Int -> Int -> Int -> Int -> Int -> Int -> Int -> (List Int) -> (List Int) -> Int -> Int -> Int -> Int -> (List Int) -> (List Int) -> (List (ByteArray × (Int × (Int × Int)))) -> (List Int) -> Option R
abbrev GT_q1u_27 (R : Type) := (List Int) -> Int -> Int -> Int -> Int -> Int -> Int -> (List Int) -> (List Int) -> ByteArray -> Int -> Int -> Int -> ByteArray -> Int -> Int -> Int -> Int -> Int -> Int -> Int -> (List Int) -> (List Int) -> ByteArray -> Int -> Int -> Int -> ByteArray -> Int -> Int -> Int -> (List (ByteArray × (Int × (Int × Int)))) -> Option R
abbrev RT_q1u (R : Type) := GT_q1u_4 R × GT_q1u_5 R × GT_q1u_12 R × GT_q1u_14 R × GT_q1u_17 R × GT_q1u_18 R × GT_q1u_20 R × GT_q1u_24 R × GT_q1u_31 R × GT_q1u_26 R × GT_q1u_41a R × GT_q1u_41b R × GT_q1u_27 R
abbrev gs_q1u_4 (l_q1t : LT_q1t) {R : Type} (gg : RT_q1u R) (K0 : KT0_q1u R) (b : List Int) (o0 o0_1 o0_2 o0_3 : Int) (o1 o2 : List Int) (o3 : ByteArray) (o3_1 o3_2 o3_3 : Int) (o4 : ByteArray) (o4_1 o4_2 o4_3 : Int) (o5 : ByteArray) (o5_1 o5_2 o5_3 : Int) : Option R :=
 gg.2.1 b o0 o0_1 o0_2 o0_3 o1 o2 o3 o3_1 o3_2 o3_3 o4 o4_1 o4_2 o4_3 o5 o5_1 o5_2 o5_3 (ByteArray.mk #[32]) 0 0 0 (ByteArray.mk #[10]) 0 0 0

def s_q1u_4 {R : Type} := @gs_q1u_4 @l_q1t R

abbrev gs_q1u_5 (l_q1t : LT_q1t) {R : Type} (gg : RT_q1u R) (K0 : KT0_q1u R) (b : List Int) (o0 o0_1 o0_2 o0_3 : Int) (o1 o2 : List Int) (o3 : ByteArray) (o3_1 o3_2 o3_3 : Int) (o4 : ByteArray) (o4_1 o4_2 o4_3 : Int) (o5 : ByteArray) (o5_1 o5_2 o5_3 : Int) (o6 : ByteArray) (o6_1 o6_2 o6_3 : Int) (o7 : ByteArray) (o7_1 o7_2 o7_3 : Int) : Option R :=
 bi (decide ((b.length : Int) > 0)) (bi (decide (0 ≤ (0 : Int) ∧ (0 : Int) < ((b.length : Nat) : Int))) (bi ((b.getD 0 0) == 109) (l_q1t b 0 [((ByteArray.mk #[109, 101, 97, 108, 121, 32]), (0, (0, 0))), (o3, (o3_1, (o3_2, o3_3))), (o6, (o6_1, (o6_2, o6_3))), (o4, (o4_1, (o4_2, o4_3))), (o6, (o6_1, (o6_2, o6_3))), (o5, (o5_1, (o5_2, o5_3))), (o7, (o7_1, (o7_2, o7_3)))] (fun r1 r2 r3 =>
 gg.2.2.1 b r1 r2 o0 o0_1 o0_2 o0_3 o1 o2 o6 o6_1 o6_2 o6_3 o7 o7_1 o7_2 o7_3 2 0 2 0 ([] : List Int) ([] : List Int) r3)) (l_q1t b 0 [((ByteArray.mk #[100, 102, 97, 32]), (0, (0, 0))), (o3, (o3_1, (o3_2, o3_3))), (o6, (o6_1, (o6_2, o6_3))), (o5, (o5_1, (o5_2, o5_3))), (o7, (o7_1, (o7_2, o7_3)))] (fun r4 r5 r6 =>
 gg.2.2.1 b r4 r5 o0 o0_1 o0_2 o0_3 o1 o2 o6 o6_1 o6_2 o6_3 o7 o7_1 o7_2 o7_3 1 0 2 0 ([] : List Int) ([] : List Int) r6))) none) (l_q1t b 0 [((ByteArray.mk #[100, 102, 97, 32]), (0, (0, 0))), (o3, (o3_1, (o3_2, o3_3))), (o6, (o6_1, (o6_2, o6_3))), (o5, (o5_1, (o5_2, o5_3))), (o7, (o7_1, (o7_2, o7_3)))] (fun r7 r8 r9 =>
 gg.2.2.1 b r7 r8 o0 o0_1 o0_2 o0_3 o1 o2 o6 o6_1 o6_2 o6_3 o7 o7_1 o7_2 o7_3 1 0 2 0 ([] : List Int) ([] : List Int) r9))

def s_q1u_5 {R : Type} := @gs_q1u_5 @l_q1t R

abbrev gs_q1u_12 (l_q1t : LT_q1t) {R : Type} (gg : RT_q1u R) (K0 : KT0_q1u R) (b : List Int) (vat e o0 o0_1 o0_2 o0_3 : Int) (o1 o2 : List Int) (o3 : ByteArray) (o3_1 o3_2 o3_3 : Int) (o4 : ByteArray) (o4_1 o4_2 o4_3 o5 o5_1 o5_2 o5_3 : Int) (o6 o7 o8 : List Int) : Option R :=
 bi (e != 0) (K0 0 0 0 0 e vat ([] : List Int) ([] : List Int)) (gg.2.2.2.1 b vat o0 o0_1 o0_2 o0_3 o1 o2 o3 o3_1 o3_2 o3_3 o4 o4_1 o4_2 o4_3 o5 o5_1 o5_2 o5_3 o6 o7 o8)

def s_q1u_12 {R : Type} := @gs_q1u_12 @l_q1t R

abbrev gs_q1u_14 (l_q1t : LT_q1t) {R : Type} (gg : RT_q1u R) (K0 : KT0_q1u R) (b : List Int) (vat o0 o0_1 o0_2 o0_3 : Int) (o1 o2 : List Int) (o3 : ByteArray) (o3_1 o3_2 o3_3 : Int) (o4 : ByteArray) (o4_1 o4_2 o4_3 o5 o5_1 o5_2 o5_3 : Int) (o6 o7 o8 : List Int) : Option R :=
 bi (decide (0 ≤ (0 : Int) ∧ (0 : Int) < ((o8.length : Nat) : Int))) (bi (decide (0 ≤ (IntKind.i64.wrap ((o8.length : Int) - 1)) ∧ (IntKind.i64.wrap ((o8.length : Int) - 1)) < ((o8.length : Nat) : Int))) (twice (bi (o5 == 2) (bi (decide (0 ≤ (1 : Int) ∧ (1 : Int) < ((o8.length : Nat) : Int)))
 (gg.2.2.2.2.1 b vat o0 o0_1 o0_2 o0_3 o1 o2 o3 o3_1 o3_2 o3_3 o4 o4_1 o4_2 o4_3 o5 (o8.getD 0 0) (o8.getD 1 0) (o8.getD ((IntKind.i64.wrap ((o8.length : Int) - 1)).toNat) 0) o6 o7) none) (gg.2.2.2.2.1 b vat o0 o0_1 o0_2 o0_3 o1 o2 o3 o3_1 o3_2 o3_3 o4 o4_1 o4_2 o4_3 o5 (o8.getD 0 0) o5_2 (o8.getD ((IntKind.i64.wrap ((o8.length : Int) - 1)).toNat) 0) o6 o7))) none) none

def s_q1u_14 {R : Type} := @gs_q1u_14 @l_q1t R

abbrev gs_q1u_17 (l_q1t : LT_q1t) {R : Type} (gg : RT_q1u R) (K0 : KT0_q1u R) (b : List Int) (vat o0 o0_1 o0_2 o0_3 : Int) (o1 o2 : List Int) (o3 : ByteArray) (o3_1 o3_2 o3_3 : Int) (o4 : ByteArray) (o4_1 o4_2 o4_3 o5 o5_1 o5_2 o5_3 : Int) (o6 o7 : List Int) : Option R :=
 both (twice (gg.2.2.2.2.2.1 b vat o0 o0_1 o0_2 o0_3 o1 o2 o3 o3_1 o3_2 o3_3 o4 o4_1 o4_2 o4_3 o5 o5_1 o5_2 o5_3 o6 o7 ByteArray.empty 0 (IntKind.i64.wrap (o5_3 - 1)) 32 ByteArray.empty 0 (IntKind.i64.wrap (o5_2 - 1)) 33)) (twice (thrice
 (gg.2.2.2.2.2.1 b vat o0 o0_1 o0_2 o0_3 o1 o2 o3 o3_1 o3_2 o3_3 o4 o4_1 o4_2 o4_3 o5 o5_1 o5_2 o5_3 o6 o7 ByteArray.empty 0 (IntKind.i64.wrap (o5_3 - 1)) 32 ByteArray.empty 0 (IntKind.i64.wrap (o5_2 - 1)) 33)))

def s_q1u_17 {R : Type} := @gs_q1u_17 @l_q1t R

abbrev gs_q1u_18 (l_q1t : LT_q1t) {R : Type} (gg : RT_q1u R) (K0 : KT0_q1u R) (b : List Int) (vat o0 o0_1 o0_2 o0_3 : Int) (o1 o2 : List Int) (o3 : ByteArray) (o3_1 o3_2 o3_3 : Int) (o4 : ByteArray) (o4_1 o4_2 o4_3 o5 o5_1 o5_2 o5_3 : Int) (o6 o7 : List Int) (o8 : ByteArray) (o8_1 o8_2 o8_3 : Int) (o9 : ByteArray) (o9_1 o9_2 o9_3 : Int) : Option R :=
 gg.2.2.2.2.2.2.1 b vat 0 o0 o0_1 o0_2 o0_3 o1 o2 o3 o3_1 o3_2 o3_3 o4 o4_1 o4_2 o4_3 o5 o5_1 o5_2 o5_3 o6 o7 o8 o8_1 o8_2 o8_3 o9 o9_1 o9_2 o9_3 ([] : List (ByteArray × (Int × (Int × Int))))

def s_q1u_18 {R : Type} := @gs_q1u_18 @l_q1t R

abbrev gs_q1u_20 (l_q1t : LT_q1t) {R : Type} (gg : RT_q1u R) (K0 : KT0_q1u R) (b : List Int) (vat x o0 o0_1 o0_2 o0_3 : Int) (o1 o2 : List Int) (o3 : ByteArray) (o3_1 o3_2 o3_3 : Int) (o4 : ByteArray) (o4_1 o4_2 o4_3 o5 o5_1 o5_2 o5_3 : Int) (o6 o7 : List Int) (o8 : ByteArray) (o8_1 o8_2 o8_3 : Int) (o9 : ByteArray) (o9_1 o9_2 o9_3 : Int) (o10 : List (ByteArray × (Int × (Int × Int)))) : Option R :=
 bi (decide (x < o5_1)) (bi (o5 == 1) (bi (x == 0) (bi (decide ((o10.length + [(o9, (o9_1, (o9_2, o9_3)))].length) * 40 ≤ lim)) (gg.2.2.2.2.2.2.2.1 b vat x o0 o0_1 o0_2 o0_3 o1 o2 o3 o3_1 o3_2 o3_3 o4 o4_1 o4_2 o4_3 o5 o5_1 o5_2 o5_3 o6 o7 o8 o8_1 o8_2 o8_3 o9 o9_1 o9_2 o9_3 (o10 ++ [(o9, (o9_1, (o9_2, o9_3)))])) none)
 (gg.2.2.2.2.2.2.2.1 b vat x o0 o0_1 o0_2 o0_3 o1 o2 o3 o3_1 o3_2 o3_3 o4 o4_1 o4_2 o4_3 o5 o5_1 o5_2 o5_3 o6 o7 o8 o8_1 o8_2 o8_3 o9 o9_1 o9_2 o9_3 o10)) (gg.2.2.2.2.2.2.2.1 b vat x o0 o0_1 o0_2 o0_3 o1 o2 o3 o3_1 o3_2 o3_3 o4 o4_1 o4_2 o4_3 o5 o5_1 o5_2 o5_3 o6 o7 o8 o8_1 o8_2 o8_3 o9 o9_1 o9_2 o9_3 o10)) (bi (decide ((o10.length + [(o4, (o4_1, (o4_2, o4_3)))].length) * 40 ≤ lim))
 (gg.2.2.2.2.2.2.2.2.1 b vat 0 o0 o0_1 o0_2 o0_3 o1 o2 o5 o5_1 o5_2 o5_3 o6 o7 (o10 ++ [(o4, (o4_1, (o4_2, o4_3)))])) none)

def s_q1u_20 {R : Type} := @gs_q1u_20 @l_q1t R

abbrev gs_q1u_24 (l_q1t : LT_q1t) {R : Type} (gg : RT_q1u R) (K0 : KT0_q1u R) (b : List Int) (vat x o0 o0_1 o0_2 o0_3 : Int) (o1 o2 : List Int) (o3 : ByteArray) (o3_1 o3_2 o3_3 : Int) (o4 : ByteArray) (o4_1 o4_2 o4_3 o5 o5_1 o5_2 o5_3 : Int) (o6 o7 : List Int) (o8 : ByteArray) (o8_1 o8_2 o8_3 : Int) (o9 : ByteArray) (o9_1 o9_2 o9_3 : Int) (o10 : List (ByteArray × (Int × (Int × Int)))) : Option R :=
 bi (o5 == 1) (bi (decide ((o10.length + [(o3, (o3_1, (o3_2, o3_3)))].length) * 40 ≤ lim)) (gg.2.2.2.2.2.2.2.2.2.1 b vat x o0 o0_1 o0_2 o0_3 o1 o2 o3 o3_1 o3_2 o3_3 o4 o4_1 o4_2 o4_3 o5 o5_1 o5_2 o5_3 o6 o7 o8 o8_1 o8_2 o8_3 o9 o9_1 o9_2 o9_3 (o10 ++ [(o3, (o3_1, (o3_2, o3_3)))])) none) (bi (decide (x > 0)) (bi (decide ((o10.length + [(o3, (o3_1, (o3_2, o3_3)))].length) * 40 ≤ lim))
 (gg.2.2.2.2.2.2.2.2.2.1 b vat x o0 o0_1 o0_2 o0_3 o1 o2 o3 o3_1 o3_2 o3_3 o4 o4_1 o4_2 o4_3 o5 o5_1 o5_2 o5_3 o6 o7 o8 o8_1 o8_2 o8_3 o9 o9_1 o9_2 o9_3 (o10 ++ [(o3, (o3_1, (o3_2, o3_3)))])) none) (gg.2.2.2.2.2.2.2.2.2.1 b vat x o0 o0_1 o0_2 o0_3 o1 o2 o3 o3_1 o3_2 o3_3 o4 o4_1 o4_2 o4_3 o5 o5_1 o5_2 o5_3 o6 o7 o8 o8_1 o8_2 o8_3 o9 o9_1 o9_2 o9_3 o10))

def s_q1u_24 {R : Type} := @gs_q1u_24 @l_q1t R

abbrev gs_q1u_31 (l_q1t : LT_q1t) {R : Type} (gg : RT_q1u R) (K0 : KT0_q1u R) (b : List Int) (vat s o0 o0_1 o0_2 o0_3 : Int) (o1 o2 : List Int) (o3 o3_1 o3_2 o3_3 : Int) (o4 o5 : List Int) (o6 : List (ByteArray × (Int × (Int × Int)))) : Option R :=
 bi (decide (s < o3_3)) (l_q1t b vat o6 (fun r10 r11 r12 => bi (r11 != 0) (K0 0 0 0 0 r11 r10 ([] : List Int) ([] : List Int)) (bi (o3 == 1) (bi (decide (0 ≤ (0 : Int) ∧ (0 : Int) < ((r12.length : Nat) : Int))) (bi (decide ((o5.length + [r12.getD 0 0].length) * 8 ≤ lim)) (bi (decide (0 ≤ (1 : Int) ∧ (1 : Int) ≤ ((r12.length : Nat) : Int)))
 (gg.2.2.2.2.2.2.2.2.2.2.1 b r10 s (r12.length - 1) 0 o0 o0_1 o0_2 o0_3 o1 o2 o3 o3_1 o3_2 o3_3 o4 (o5 ++ [r12.getD 0 0]) o6 r12) none) none) none) (gg.2.2.2.2.2.2.2.2.2.2.2.1 b r10 s 0 o0 o0_1 o0_2 o0_3 o1 o2 o3 o3_1 o3_2 o3_3 o4 o5 o6 r12)))) (bi (decide (vat < (b.length : Int))) (K0 0 0 0 0 6 vat ([] : List Int) ([] : List Int)) (K0 o3 o3_1 o3_2 o3_3 0 vat o4 o5))

def s_q1u_31 {R : Type} := @gs_q1u_31 @l_q1t R

abbrev gs_q1u_26 (l_q1t : LT_q1t) {R : Type} (gg : RT_q1u R) (K0 : KT0_q1u R) (b : List Int) (vat x o0 o0_1 o0_2 o0_3 : Int) (o1 o2 : List Int) (o3 : ByteArray) (o3_1 o3_2 o3_3 : Int) (o4 : ByteArray) (o4_1 o4_2 o4_3 o5 o5_1 o5_2 o5_3 : Int) (o6 o7 : List Int) (o8 : ByteArray) (o8_1 o8_2 o8_3 : Int) (o9 : ByteArray) (o9_1 o9_2 o9_3 : Int) (o10 : List (ByteArray × (Int × (Int × Int)))) : Option R :=
 bi (decide ((o10.length + [(o8, (o8_1, (o8_2, o8_3)))].length) * 40 ≤ lim)) (gg.2.2.2.2.2.2.2.2.2.2.2.2 b vat x o0 o0_1 o0_2 o0_3 o1 o2 o3 o3_1 o3_2 o3_3 o4 o4_1 o4_2 o4_3 o5 o5_1 o5_2 o5_3 o6 o7 o8 o8_1 o8_2 o8_3 o9 o9_1 o9_2 o9_3 (o10 ++ [(o8, (o8_1, (o8_2, o8_3)))])) none

def s_q1u_26 {R : Type} := @gs_q1u_26 @l_q1t R

abbrev gs_q1u_41a (l_q1t : LT_q1t) {R : Type} (gg : RT_q1u R) (K0 : KT0_q1u R) (b : List Int) (vat s : Int) (l : Nat) (i o0 o0_1 o0_2 o0_3 : Int) (o1 o2 : List Int) (o3 o3_1 o3_2 o3_3 : Int) (o4 o5 : List Int) (o6 : List (ByteArray × (Int × (Int × Int)))) (o7 : List Int) : Option R :=
 bi (decide (i < ((l : Nat) : Int))) (bi (o3 == 2) (bi ((i.tmod 2) == 1) (bi (decide (0 ≤ i ∧ i < ((l : Nat) : Int))) (bi (decide ((o5.length + [o7.getD (1 + i.toNat) 0].length) * 8 ≤ lim)) (gg.2.2.2.2.2.2.2.2.2.2.1 b vat s l (IntKind.i64.wrap (i + 1)) o0 o0_1 o0_2 o0_3 o1 o2 o3 o3_1 o3_2 o3_3 o4 (o5 ++ [o7.getD (1 + i.toNat) 0]) o6 o7) none) none) (bi (decide (0 ≤ i ∧ i < ((l : Nat) : Int)))
 (bi (decide ((o4.length + [o7.getD (1 + i.toNat) 0].length) * 8 ≤ lim)) (gg.2.2.2.2.2.2.2.2.2.2.1 b vat s l (IntKind.i64.wrap (i + 1)) o0 o0_1 o0_2 o0_3 o1 o2 o3 o3_1 o3_2 o3_3 (o4 ++ [o7.getD (1 + i.toNat) 0]) o5 o6 o7) none) none)) (bi (decide (0 ≤ i ∧ i < ((l : Nat) : Int))) (bi (decide ((o4.length + [o7.getD (1 + i.toNat) 0].length) * 8 ≤ lim))
 (gg.2.2.2.2.2.2.2.2.2.2.1 b vat s l (IntKind.i64.wrap (i + 1)) o0 o0_1 o0_2 o0_3 o1 o2 o3 o3_1 o3_2 o3_3 (o4 ++ [o7.getD (1 + i.toNat) 0]) o5 o6 o7) none) none)) (gg.2.2.2.2.2.2.2.2.1 b vat (IntKind.i64.wrap (s + 1)) o0 o0_1 o0_2 o0_3 o1 o2 o3 o3_1 o3_2 o3_3 o4 o5 o6)

def s_q1u_41a {R : Type} := @gs_q1u_41a @l_q1t R

abbrev gs_q1u_41b (l_q1t : LT_q1t) {R : Type} (gg : RT_q1u R) (K0 : KT0_q1u R) (b : List Int) (vat s i o0 o0_1 o0_2 o0_3 : Int) (o1 o2 : List Int) (o3 o3_1 o3_2 o3_3 : Int) (o4 o5 : List Int) (o6 : List (ByteArray × (Int × (Int × Int)))) (o7 : List Int) : Option R :=
 bi (decide (i < (o7.length : Int))) (bi (o3 == 2) (bi ((i.tmod 2) == 1) (bi (decide (0 ≤ i ∧ i < ((o7.length : Nat) : Int))) (bi (decide ((o5.length + [o7.getD i.toNat 0].length) * 8 ≤ lim)) (gg.2.2.2.2.2.2.2.2.2.2.2.1 b vat s (IntKind.i64.wrap (i + 1)) o0 o0_1 o0_2 o0_3 o1 o2 o3 o3_1 o3_2 o3_3 o4 (o5 ++ [o7.getD i.toNat 0]) o6 o7) none) none) (bi (decide (0 ≤ i ∧ i < ((o7.length : Nat) : Int)))
 (bi (decide ((o4.length + [o7.getD i.toNat 0].length) * 8 ≤ lim)) (gg.2.2.2.2.2.2.2.2.2.2.2.1 b vat s (IntKind.i64.wrap (i + 1)) o0 o0_1 o0_2 o0_3 o1 o2 o3 o3_1 o3_2 o3_3 (o4 ++ [o7.getD i.toNat 0]) o5 o6 o7) none) none)) (bi (decide (0 ≤ i ∧ i < ((o7.length : Nat) : Int))) (bi (decide ((o4.length + [o7.getD i.toNat 0].length) * 8 ≤ lim))
 (gg.2.2.2.2.2.2.2.2.2.2.2.1 b vat s (IntKind.i64.wrap (i + 1)) o0 o0_1 o0_2 o0_3 o1 o2 o3 o3_1 o3_2 o3_3 (o4 ++ [o7.getD i.toNat 0]) o5 o6 o7) none) none)) (gg.2.2.2.2.2.2.2.2.1 b vat (IntKind.i64.wrap (s + 1)) o0 o0_1 o0_2 o0_3 o1 o2 o3 o3_1 o3_2 o3_3 o4 o5 o6)

def s_q1u_41b {R : Type} := @gs_q1u_41b @l_q1t R

abbrev gs_q1u_27 (l_q1t : LT_q1t) {R : Type} (gg : RT_q1u R) (K0 : KT0_q1u R) (b : List Int) (vat x o0 o0_1 o0_2 o0_3 : Int) (o1 o2 : List Int) (o3 : ByteArray) (o3_1 o3_2 o3_3 : Int) (o4 : ByteArray) (o4_1 o4_2 o4_3 o5 o5_1 o5_2 o5_3 : Int) (o6 o7 : List Int) (o8 : ByteArray) (o8_1 o8_2 o8_3 : Int) (o9 : ByteArray) (o9_1 o9_2 o9_3 : Int) (o10 : List (ByteArray × (Int × (Int × Int)))) : Option R :=
 bi (o5 == 2) (bi (decide ((o10.length + [((ByteArray.mk #[47]), (0, (0, 0))), (o9, (o9_1, (o9_2, o9_3)))].length) * 40 ≤ lim)) (gg.2.2.2.2.2.2.1 b vat (IntKind.i64.wrap (x + 1)) o0 o0_1 o0_2 o0_3 o1 o2 o3 o3_1 o3_2 o3_3 o4 o4_1 o4_2 o4_3 o5 o5_1 o5_2 o5_3 o6 o7 o8 o8_1 o8_2 o8_3 o9 o9_1 o9_2 o9_3 (o10 ++ [((ByteArray.mk #[47]), (0, (0, 0))), (o9, (o9_1, (o9_2, o9_3)))])) none)
 (gg.2.2.2.2.2.2.1 b vat (IntKind.i64.wrap (x + 1)) o0 o0_1 o0_2 o0_3 o1 o2 o3 o3_1 o3_2 o3_3 o4 o4_1 o4_2 o4_3 o5 o5_1 o5_2 o5_3 o6 o7 o8 o8_1 o8_2 o8_3 o9 o9_1 o9_2 o9_3 o10)

def s_q1u_27 {R : Type} := @gs_q1u_27 @l_q1t R

abbrev ge_q1u (l_q1t : LT_q1t) {R : Type} (gg : RT_q1u R) (K0 : KT0_q1u R) (b : List Int) : Option R :=
 bi (decide ((b.length : Int) > 16777216)) (K0 0 0 0 0 2 0 ([] : List Int) ([] : List Int)) (gg.1 b 0 0 0 0 ([] : List Int) ([] : List Int) ByteArray.empty 1 64 1 ByteArray.empty 1 64 33 ByteArray.empty 1 1024 3)

def e_q1u {R : Type} := @ge_q1u @l_q1t R

def run_q1u {R : Type} (K0 : KT0_q1u R) : Nat -> (GT_q1u_4 R) × (GT_q1u_5 R) × (GT_q1u_12 R) × (GT_q1u_14 R) × (GT_q1u_17 R) × (GT_q1u_18 R) × (GT_q1u_20 R) × (GT_q1u_24 R) × (GT_q1u_31 R) × (GT_q1u_26 R) × (GT_q1u_41a R) × (GT_q1u_41b R) × (GT_q1u_27 R)
 |0 => (fun _ _ _ _ _ _ _ _ _ _ _ _ _ _ _ _ _ _ _ => none, fun _ _ _ _ _ _ _ _ _ _ _ _ _ _ _ _ _ _ _ _ _ _ _ _ _ _ _ => none, fun _ _ _ _ _ _ _ _ _ _ _ _ _ _ _ _ _ _ _ _ _ _ _ _ => none, fun _ _ _ _ _ _ _ _ _ _ _ _ _ _ _ _ _ _ _ _ _ _ _ => none, fun _ _ _ _ _ _ _ _ _ _ _ _ _ _ _ _ _ _ _ _ _ _ => none, fun _ _ _ _ _ _ _ _ _ _ _ _ _ _ _ _ _ _ _ _ _ _ _ _ _ _ _ _ _ _ => none, fun _ _ _ _ _ _ _ _ _ _ _ _ _ _ _ _ _ _ _ _ _ _ _ _ _ _ _ _ _ _ _ _ => none, fun _ _ _ _ _ _ _ _ _ _ _ _ _ _ _ _ _ _ _ _ _ _ _ _ _ _ _ _ _ _ _ _ => none, fun _ _ _ _ _ _ _ _ _ _ _ _ _ _ _ _ => none, fun _ _ _ _ _ _ _ _ _ _ _ _ _ _ _ _ _ _ _ _ _ _ _ _ _ _ _ _ _ _ _ _ => none, fun _ _ _ _ _ _ _ _ _ _ _ _ _ _ _ _ _ _ _ => none, fun _ _ _ _ _ _ _ _ _ _ _ _ _ _ _ _ _ _ => none, fun _ _ _ _ _ _ _ _ _ _ _ _ _ _ _ _ _ _ _ _ _ _ _ _ _ _ _ _ _ _ _ _ => none)
 |n + 1 => (fun r => (s_q1u_4 r K0, s_q1u_5 r K0, s_q1u_12 r K0, s_q1u_14 r K0, s_q1u_17 r K0, s_q1u_18 r K0, s_q1u_20 r K0, s_q1u_24 r K0, s_q1u_31 r K0, s_q1u_26 r K0, s_q1u_41a r K0, s_q1u_41b r K0, s_q1u_27 r K0)) (run_q1u K0 n)

def l_q1u {R : Type} (b : List Int) (K0 : KT0_q1u R) : Option R := evl fun fuel => e_q1u (run_q1u K0 fuel) K0 b

theorem st_q1u_4 {R : Type} (K0 : KT0_q1u R) (fuel : Nat) (b : List Int) (o0 o0_1 o0_2 o0_3 : Int) (o1 o2 : List Int) (o3 : ByteArray) (o3_1 o3_2 o3_3 : Int) (o4 : ByteArray) (o4_1 o4_2 o4_3 : Int) (o5 : ByteArray) (o5_1 o5_2 o5_3 : Int) : (run_q1u K0 (fuel + 1)).1 b o0 o0_1 o0_2 o0_3 o1 o2 o3 o3_1 o3_2 o3_3 o4 o4_1 o4_2 o4_3 o5 o5_1 o5_2 o5_3 = s_q1u_4 (run_q1u K0 fuel) K0 b o0 o0_1 o0_2 o0_3 o1 o2 o3 o3_1 o3_2 o3_3 o4 o4_1 o4_2 o4_3 o5 o5_1 o5_2 o5_3 := rfl

theorem st_q1u_5 {R : Type} (K0 : KT0_q1u R) (fuel : Nat) (b : List Int) (o0 o0_1 o0_2 o0_3 : Int) (o1 o2 : List Int) (o3 : ByteArray) (o3_1 o3_2 o3_3 : Int) (o4 : ByteArray) (o4_1 o4_2 o4_3 : Int) (o5 : ByteArray) (o5_1 o5_2 o5_3 : Int) (o6 : ByteArray) (o6_1 o6_2 o6_3 : Int) (o7 : ByteArray) (o7_1 o7_2 o7_3 : Int) : (run_q1u K0 (fuel + 1)).2.1 b o0 o0_1 o0_2 o0_3 o1 o2 o3 o3_1 o3_2 o3_3 o4 o4_1 o4_2 o4_3 o5 o5_1 o5_2 o5_3 o6 o6_1 o6_2 o6_3 o7 o7_1 o7_2 o7_3 = s_q1u_5 (run_q1u K0 fuel) K0 b o0 o0_1 o0_2 o0_3 o1 o2 o3 o3_1 o3_2 o3_3 o4 o4_1 o4_2 o4_3 o5 o5_1 o5_2 o5_3 o6 o6_1 o6_2 o6_3 o7 o7_1 o7_2 o7_3 := rfl

theorem st_q1u_12 {R : Type} (K0 : KT0_q1u R) (fuel : Nat) (b : List Int) (vat e o0 o0_1 o0_2 o0_3 : Int) (o1 o2 : List Int) (o3 : ByteArray) (o3_1 o3_2 o3_3 : Int) (o4 : ByteArray) (o4_1 o4_2 o4_3 o5 o5_1 o5_2 o5_3 : Int) (o6 o7 o8 : List Int) : (run_q1u K0 (fuel + 1)).2.2.1 b vat e o0 o0_1 o0_2 o0_3 o1 o2 o3 o3_1 o3_2 o3_3 o4 o4_1 o4_2 o4_3 o5 o5_1 o5_2 o5_3 o6 o7 o8 = s_q1u_12 (run_q1u K0 fuel) K0 b vat e o0 o0_1 o0_2 o0_3 o1 o2 o3 o3_1 o3_2 o3_3 o4 o4_1 o4_2 o4_3 o5 o5_1 o5_2 o5_3 o6 o7 o8 := rfl

theorem st_q1u_14 {R : Type} (K0 : KT0_q1u R) (fuel : Nat) (b : List Int) (vat o0 o0_1 o0_2 o0_3 : Int) (o1 o2 : List Int) (o3 : ByteArray) (o3_1 o3_2 o3_3 : Int) (o4 : ByteArray) (o4_1 o4_2 o4_3 o5 o5_1 o5_2 o5_3 : Int) (o6 o7 o8 : List Int) : (run_q1u K0 (fuel + 1)).2.2.2.1 b vat o0 o0_1 o0_2 o0_3 o1 o2 o3 o3_1 o3_2 o3_3 o4 o4_1 o4_2 o4_3 o5 o5_1 o5_2 o5_3 o6 o7 o8 = s_q1u_14 (run_q1u K0 fuel) K0 b vat o0 o0_1 o0_2 o0_3 o1 o2 o3 o3_1 o3_2 o3_3 o4 o4_1 o4_2 o4_3 o5 o5_1 o5_2 o5_3 o6 o7 o8 := rfl

theorem st_q1u_17 {R : Type} (K0 : KT0_q1u R) (fuel : Nat) (b : List Int) (vat o0 o0_1 o0_2 o0_3 : Int) (o1 o2 : List Int) (o3 : ByteArray) (o3_1 o3_2 o3_3 : Int) (o4 : ByteArray) (o4_1 o4_2 o4_3 o5 o5_1 o5_2 o5_3 : Int) (o6 o7 : List Int) : (run_q1u K0 (fuel + 1)).2.2.2.2.1 b vat o0 o0_1 o0_2 o0_3 o1 o2 o3 o3_1 o3_2 o3_3 o4 o4_1 o4_2 o4_3 o5 o5_1 o5_2 o5_3 o6 o7 = s_q1u_17 (run_q1u K0 fuel) K0 b vat o0 o0_1 o0_2 o0_3 o1 o2 o3 o3_1 o3_2 o3_3 o4 o4_1 o4_2 o4_3 o5 o5_1 o5_2 o5_3 o6 o7 := rfl

theorem st_q1u_18 {R : Type} (K0 : KT0_q1u R) (fuel : Nat) (b : List Int) (vat o0 o0_1 o0_2 o0_3 : Int) (o1 o2 : List Int) (o3 : ByteArray) (o3_1 o3_2 o3_3 : Int) (o4 : ByteArray) (o4_1 o4_2 o4_3 o5 o5_1 o5_2 o5_3 : Int) (o6 o7 : List Int) (o8 : ByteArray) (o8_1 o8_2 o8_3 : Int) (o9 : ByteArray) (o9_1 o9_2 o9_3 : Int) : (run_q1u K0 (fuel + 1)).2.2.2.2.2.1 b vat o0 o0_1 o0_2 o0_3 o1 o2 o3 o3_1 o3_2 o3_3 o4 o4_1 o4_2 o4_3 o5 o5_1 o5_2 o5_3 o6 o7 o8 o8_1 o8_2 o8_3 o9 o9_1 o9_2 o9_3 = s_q1u_18 (run_q1u K0 fuel) K0 b vat o0 o0_1 o0_2 o0_3 o1 o2 o3 o3_1 o3_2 o3_3 o4 o4_1 o4_2 o4_3 o5 o5_1 o5_2 o5_3 o6 o7 o8 o8_1 o8_2 o8_3 o9 o9_1 o9_2 o9_3 := rfl

theorem st_q1u_20 {R : Type} (K0 : KT0_q1u R) (fuel : Nat) (b : List Int) (vat x o0 o0_1 o0_2 o0_3 : Int) (o1 o2 : List Int) (o3 : ByteArray) (o3_1 o3_2 o3_3 : Int) (o4 : ByteArray) (o4_1 o4_2 o4_3 o5 o5_1 o5_2 o5_3 : Int) (o6 o7 : List Int) (o8 : ByteArray) (o8_1 o8_2 o8_3 : Int) (o9 : ByteArray) (o9_1 o9_2 o9_3 : Int) (o10 : List (ByteArray × (Int × (Int × Int)))) : (run_q1u K0 (fuel + 1)).2.2.2.2.2.2.1 b vat x o0 o0_1 o0_2 o0_3 o1 o2 o3 o3_1 o3_2 o3_3 o4 o4_1 o4_2 o4_3 o5 o5_1 o5_2 o5_3 o6 o7 o8 o8_1 o8_2 o8_3 o9 o9_1 o9_2 o9_3 o10 = s_q1u_20 (run_q1u K0 fuel) K0 b vat x o0 o0_1 o0_2 o0_3 o1 o2 o3 o3_1 o3_2 o3_3 o4 o4_1 o4_2 o4_3 o5 o5_1 o5_2 o5_3 o6 o7 o8 o8_1 o8_2 o8_3 o9 o9_1 o9_2 o9_3 o10 := rfl

theorem st_q1u_24 {R : Type} (K0 : KT0_q1u R) (fuel : Nat) (b : List Int) (vat x o0 o0_1 o0_2 o0_3 : Int) (o1 o2 : List Int) (o3 : ByteArray) (o3_1 o3_2 o3_3 : Int) (o4 : ByteArray) (o4_1 o4_2 o4_3 o5 o5_1 o5_2 o5_3 : Int) (o6 o7 : List Int) (o8 : ByteArray) (o8_1 o8_2 o8_3 : Int) (o9 : ByteArray) (o9_1 o9_2 o9_3 : Int) (o10 : List (ByteArray × (Int × (Int × Int)))) : (run_q1u K0 (fuel + 1)).2.2.2.2.2.2.2.1 b vat x o0 o0_1 o0_2 o0_3 o1 o2 o3 o3_1 o3_2 o3_3 o4 o4_1 o4_2 o4_3 o5 o5_1 o5_2 o5_3 o6 o7 o8 o8_1 o8_2 o8_3 o9 o9_1 o9_2 o9_3 o10 = s_q1u_24 (run_q1u K0 fuel) K0 b vat x o0 o0_1 o0_2 o0_3 o1 o2 o3 o3_1 o3_2 o3_3 o4 o4_1 o4_2 o4_3 o5 o5_1 o5_2 o5_3 o6 o7 o8 o8_1 o8_2 o8_3 o9 o9_1 o9_2 o9_3 o10 := rfl

theorem st_q1u_31 {R : Type} (K0 : KT0_q1u R) (fuel : Nat) (b : List Int) (vat s o0 o0_1 o0_2 o0_3 : Int) (o1 o2 : List Int) (o3 o3_1 o3_2 o3_3 : Int) (o4 o5 : List Int) (o6 : List (ByteArray × (Int × (Int × Int)))) : (run_q1u K0 (fuel + 1)).2.2.2.2.2.2.2.2.1 b vat s o0 o0_1 o0_2 o0_3 o1 o2 o3 o3_1 o3_2 o3_3 o4 o5 o6 = s_q1u_31 (run_q1u K0 fuel) K0 b vat s o0 o0_1 o0_2 o0_3 o1 o2 o3 o3_1 o3_2 o3_3 o4 o5 o6 := rfl

theorem st_q1u_26 {R : Type} (K0 : KT0_q1u R) (fuel : Nat) (b : List Int) (vat x o0 o0_1 o0_2 o0_3 : Int) (o1 o2 : List Int) (o3 : ByteArray) (o3_1 o3_2 o3_3 : Int) (o4 : ByteArray) (o4_1 o4_2 o4_3 o5 o5_1 o5_2 o5_3 : Int) (o6 o7 : List Int) (o8 : ByteArray) (o8_1 o8_2 o8_3 : Int) (o9 : ByteArray) (o9_1 o9_2 o9_3 : Int) (o10 : List (ByteArray × (Int × (Int × Int)))) : (run_q1u K0 (fuel + 1)).2.2.2.2.2.2.2.2.2.1 b vat x o0 o0_1 o0_2 o0_3 o1 o2 o3 o3_1 o3_2 o3_3 o4 o4_1 o4_2 o4_3 o5 o5_1 o5_2 o5_3 o6 o7 o8 o8_1 o8_2 o8_3 o9 o9_1 o9_2 o9_3 o10 = s_q1u_26 (run_q1u K0 fuel) K0 b vat x o0 o0_1 o0_2 o0_3 o1 o2 o3 o3_1 o3_2 o3_3 o4 o4_1 o4_2 o4_3 o5 o5_1 o5_2 o5_3 o6 o7 o8 o8_1 o8_2 o8_3 o9 o9_1 o9_2 o9_3 o10 := rfl

theorem st_q1u_41a {R : Type} (K0 : KT0_q1u R) (fuel : Nat) (b : List Int) (vat s : Int) (l : Nat) (i o0 o0_1 o0_2 o0_3 : Int) (o1 o2 : List Int) (o3 o3_1 o3_2 o3_3 : Int) (o4 o5 : List Int) (o6 : List (ByteArray × (Int × (Int × Int)))) (o7 : List Int) : (run_q1u K0 (fuel + 1)).2.2.2.2.2.2.2.2.2.2.1 b vat s l i o0 o0_1 o0_2 o0_3 o1 o2 o3 o3_1 o3_2 o3_3 o4 o5 o6 o7 = s_q1u_41a (run_q1u K0 fuel) K0 b vat s l i o0 o0_1 o0_2 o0_3 o1 o2 o3 o3_1 o3_2 o3_3 o4 o5 o6 o7 := rfl

theorem st_q1u_41b {R : Type} (K0 : KT0_q1u R) (fuel : Nat) (b : List Int) (vat s i o0 o0_1 o0_2 o0_3 : Int) (o1 o2 : List Int) (o3 o3_1 o3_2 o3_3 : Int) (o4 o5 : List Int) (o6 : List (ByteArray × (Int × (Int × Int)))) (o7 : List Int) : (run_q1u K0 (fuel + 1)).2.2.2.2.2.2.2.2.2.2.2.1 b vat s i o0 o0_1 o0_2 o0_3 o1 o2 o3 o3_1 o3_2 o3_3 o4 o5 o6 o7 = s_q1u_41b (run_q1u K0 fuel) K0 b vat s i o0 o0_1 o0_2 o0_3 o1 o2 o3 o3_1 o3_2 o3_3 o4 o5 o6 o7 := rfl

theorem st_q1u_27 {R : Type} (K0 : KT0_q1u R) (fuel : Nat) (b : List Int) (vat x o0 o0_1 o0_2 o0_3 : Int) (o1 o2 : List Int) (o3 : ByteArray) (o3_1 o3_2 o3_3 : Int) (o4 : ByteArray) (o4_1 o4_2 o4_3 o5 o5_1 o5_2 o5_3 : Int) (o6 o7 : List Int) (o8 : ByteArray) (o8_1 o8_2 o8_3 : Int) (o9 : ByteArray) (o9_1 o9_2 o9_3 : Int) (o10 : List (ByteArray × (Int × (Int × Int)))) : (run_q1u K0 (fuel + 1)).2.2.2.2.2.2.2.2.2.2.2.2 b vat x o0 o0_1 o0_2 o0_3 o1 o2 o3 o3_1 o3_2 o3_3 o4 o4_1 o4_2 o4_3 o5 o5_1 o5_2 o5_3 o6 o7 o8 o8_1 o8_2 o8_3 o9 o9_1 o9_2 o9_3 o10 = s_q1u_27 (run_q1u K0 fuel) K0 b vat x o0 o0_1 o0_2 o0_3 o1 o2 o3 o3_1 o3_2 o3_3 o4 o4_1 o4_2 o4_3 o5 o5_1 o5_2 o5_3 o6 o7 o8 o8_1 o8_2 o8_3 o9 o9_1 o9_2 o9_3 o10 := rfl

section refimport

theorem takeS_bytes (b : List Int) : ∀ (l : List Pc) (a : Nat) (ns : List Int) (q : Nat × List Int), takeS b l a ns = .inr q -> a ≤ b.length -> q.2.length + a ≤ ns.length + q.1 ∧ ns.length ≤ q.2.length ∧ q.2.length ≤ ns.length + l.length ∧ q.1 ≤ b.length
 |[], a, ns, q, h, ha => by
  obtain rfl := Sum.inr.inj h
  simp
  exact ha
 |p :: l, a, ns, q, h, ha => by
  simp only [takeS] at h
  by_cases hp : 0 < p.1.size
  ·rw [if_pos hp] at h
   obtain ⟨c, h1, h⟩ := bindR_ok h
   obtain ⟨e1, e2, e3, e4⟩ := takeS_bytes b l c ns q h (wantS_le h1 ha)
   have := (wantS_ok h1).1
   simp only [List.length_cons]
   omega
  ·rw [if_neg hp] at h
   obtain ⟨c, h1, h⟩ := bindR_ok h
   obtain ⟨e1, e2, e3, e4⟩ := takeS_bytes b l c.2 (ns ++ [c.1]) q h (numbS_le h1 ha)
   have := numbS_lt h1
   simp only [List.length_cons, List.length_append, List.length_nil] at e1 e2 e3 ⊢
   omega

theorem evens_snoc : ∀ (l : List Int) (x : Int), (l.length % 2 = 0 -> evens (l ++ [x]) = evens l ++ [x] ∧ odds (l ++ [x]) = odds l) ∧ (l.length % 2 = 1 -> evens (l ++ [x]) = evens l ∧ odds (l ++ [x]) = odds l ++ [x])
 |[], x => ⟨fun _ => ⟨rfl, rfl⟩, fun h => by simp at h⟩
 |[z], x => ⟨fun h => by simp at h, fun _ => ⟨rfl, rfl⟩⟩
 |z :: w :: l, x => by
  obtain ⟨h1, h2⟩ := evens_snoc l x
  constructor
  ·intro h
   obtain ⟨e1, e2⟩ := h1 (by simp at h; omega)
   exact ⟨by show z :: evens (l ++ [x]) = _; rw [e1]; rfl, by show w :: odds (l ++ [x]) = _; rw [e2]; rfl⟩
  ·intro h
   obtain ⟨e1, e2⟩ := h2 (by simp at h; omega)
   exact ⟨by show z :: evens (l ++ [x]) = _; rw [e1]; rfl, by show w :: odds (l ++ [x]) = _; rw [e2]; rfl⟩

theorem take_snoc {l : List Int} {i : Nat} (h : i < l.length) : l.take (i + 1) = l.take i ++ [l[i]] := by
 rw [List.take_add_one, List.getElem?_eq_getElem h]
 rfl

theorem evens_len : ∀ l : List Int, (evens l).length ≤ l.length ∧ (odds l).length ≤ l.length
 |[] => by simp [evens, odds]
 |[_] => by simp [evens, odds]
 |_ :: _ :: l => by
  have := evens_len l
  simp only [evens, odds, List.length_cons]
  omega

variable {R : Type} {K0 : Int -> Int -> Int -> Int -> Int -> Int -> List Int -> List Int -> Option R} {b : List Int} {k K O N : Int}

theorem ri_deal1 {a s : Nat} {row : List Pc} {nums ou n0 : List Int} {v : Option R} (hk : k = 1) (hn : 0 < nums.length) (hb : n0.length ≤ 17000000 ∧ nums.length ≤ 1000)
  (next : Reach (fun m => (run_q1u K0 m).2.2.2.2.2.2.2.2.1 b (a : Int) ((s + 1 : Nat) : Int) 0 0 0 0 [] [] k K O N (n0 ++ nums.tail) ou row) v) (hs : s ≤ 2000) :
  ∀ (d i : Nat), i + d = nums.length - 1 -> Reach (fun m => (run_q1u K0 m).2.2.2.2.2.2.2.2.2.2.1 b (a : Int) (s : Int) (nums.length - 1) (i : Int) 0 0 0 0 [] [] k K O N (n0 ++ nums.tail.take i) ou row nums) v
 |0, i, h => by
  refine .step (fun m => ?_) next
  rw [st_q1u_41a]
  unfold s_q1u_41a gs_q1u_41a
  rw [br_neg (by omega), wr ((s : Int) + 1) (by omega) (by omega), List.take_of_length_le (by rw [List.length_tail]; omega)]
  rfl
 |d + 1, i, h => by
  have hlt : i < nums.tail.length := by rw [List.length_tail]; omega
  refine .step (fun m => ?_) (ri_deal1 hk hn hb next hs d (i + 1) (by omega))
  rw [st_q1u_41a]
  unfold s_q1u_41a gs_q1u_41a
  have hg : nums.getD (1 + (i : Int).toNat) 0 = nums.tail[i] := by
   rw [Int.toNat_natCast, getD_of 0 (by omega), List.getElem_tail]
   congr 1
   omega
  rw [br_pos (by omega), br_eq' (by omega), br_pos (by omega), hg, br_pos (by simp only [lim, List.length_append, List.length_take, List.length_cons, List.length_nil]; omega), wr ((i : Int) + 1) (by omega) (by omega), List.append_assoc, ← take_snoc hlt]
  rfl

theorem ri_deal2 {a s : Nat} {row : List Pc} {nums n0 o0 : List Int} {v : Option R} (hk : k = 2) (hb : n0.length ≤ 17000000 ∧ o0.length ≤ 17000000 ∧ nums.length ≤ 1000)
  (next : Reach (fun m => (run_q1u K0 m).2.2.2.2.2.2.2.2.1 b (a : Int) ((s + 1 : Nat) : Int) 0 0 0 0 [] [] k K O N (n0 ++ evens nums) (o0 ++ odds nums) row) v) (hs : s ≤ 2000) :
  ∀ (d i : Nat), i + d = nums.length -> Reach (fun m => (run_q1u K0 m).2.2.2.2.2.2.2.2.2.2.2.1 b (a : Int) (s : Int) (i : Int) 0 0 0 0 [] [] k K O N (n0 ++ evens (nums.take i)) (o0 ++ odds (nums.take i)) row nums) v
 |0, i, h => by
  refine .step (fun m => ?_) next
  rw [st_q1u_41b]
  unfold s_q1u_41b gs_q1u_41b
  rw [br_neg (by omega), wr ((s : Int) + 1) (by omega) (by omega), List.take_of_length_le (by omega)]
  rfl
 |d + 1, i, h => by
  have hlt : i < nums.length := by omega
  refine .step (fun m => ?_) (ri_deal2 hk hb next hs d (i + 1) (by omega))
  rw [st_q1u_41b]
  unfold s_q1u_41b gs_q1u_41b
  have hlen : (nums.take i).length = i := by rw [List.length_take]; omega
  obtain ⟨l1, l2⟩ := evens_len (nums.take i)
  obtain ⟨se, so⟩ := evens_snoc (nums.take i) nums[i]
  rw [hlen] at l1 l2 se so
  have ht : nums.take (i + 1) = nums.take i ++ [nums[i]] := take_snoc hlt
  rw [br_pos (by omega), br_eq hk, ht]
  by_cases c : i % 2 = 1
  ·rw [br_eq (show ((i : Int).tmod 2) = 1 by rw [Int.tmod_eq_emod_of_nonneg (by omega)]; omega), br_pos (by omega), Int.toNat_natCast, getD_of 0 hlt, br_pos (by simp only [lim, List.length_append, List.length_cons, List.length_nil]; omega), wr ((i : Int) + 1) (by omega) (by omega), (so c).1, (so c).2, List.append_assoc]
   rfl
  ·rw [br_eq' (show ((i : Int).tmod 2) ≠ 1 by rw [Int.tmod_eq_emod_of_nonneg (by omega)]; omega), br_pos (by omega), Int.toNat_natCast, getD_of 0 hlt, br_pos (by simp only [lim, List.length_append, List.length_cons, List.length_nil]; omega), wr ((i : Int) + 1) (by omega) (by omega), (se (by omega)).1, (se (by omega)).2, List.append_assoc]
   rfl

theorem rowP_small (k K O N : Int) (hK : K ≤ 64) : (rowP k K O N).length ≤ 1000 ∧ ∀ p ∈ rowP k K O N, p.1.size ≤ 1000 := by
 have hc := cellsP_len k O N K.toNat 0
 refine ⟨by unfold rowP; simp; omega, ?_⟩
 have hcell : ∀ x, ∀ p ∈ cellP k O N x, p.1.size ≤ 1000 := by
  have n1 : ∀ lo hi kd : Int, (numP lo hi kd).1.size ≤ 1000 := fun _ _ _ => Nat.le_of_ble_eq_true rfl
  have n2 : spP.1.size ≤ 1000 := by decide
  have n3 : slP.1.size ≤ 1000 := by decide
  intro x p hp
  unfold cellP at hp
  split at hp <;> split at hp <;> simp only [List.cons_append, List.nil_append, List.mem_cons, List.not_mem_nil, or_false] at hp <;>
   first
   |(rcases hp with h | h | h | h <;> rw [h] <;> first | exact n1 _ _ _ | exact n2 | exact n3)
   |(rcases hp with h | h | h <;> rw [h] <;> first | exact n1 _ _ _ | exact n2 | exact n3)
   |(rcases hp with h | h <;> rw [h] <;> first | exact n1 _ _ _ | exact n2 | exact n3)
 have hall : ∀ d x, ∀ p ∈ cellsP k O N d x, p.1.size ≤ 1000 := by
  intro d
  induction d with
  |zero => intro x p hp; simp [cellsP] at hp
  |succ d ih =>
   intro x p hp
   simp only [cellsP] at hp
   rcases List.mem_append.1 hp with h | h
   ·exact hcell x p h
   ·exact ih (x + 1) p h
 intro p hp
 unfold rowP at hp
 rcases List.mem_append.1 hp with h | h
 ·exact hall _ _ p h
 ·obtain rfl := List.mem_singleton.1 h
  decide

theorem ri_rows (hb : b.length ≤ 16777216) (hk : k = 1 ∨ k = 2) (hK : 1 ≤ K ∧ K ≤ 64) (hO : k = 1 -> O = 2) (hN : 1 ≤ N ∧ N ≤ 1024) :
  ∀ (d s a : Nat) (nx ou : List Int), s + d = N.toNat -> a ≤ b.length -> nx.length ≤ a -> ou.length ≤ a →
   Reach (fun m => (run_q1u K0 m).2.2.2.2.2.2.2.2.1 b (a : Int) (s : Int) 0 0 0 0 [] [] k K O N nx ou (rowP k K O N))
    (outR (fun e p => K0 0 0 0 0 e p [] []) (fun m => K0 m.1 m.2.1 m.2.2.1 m.2.2.2.1 0 (b.length : Int) m.2.2.2.2.1 m.2.2.2.2.2) (bindR (rowsS k K O N b d a nx ou) (endI k K O N b)))
 |0, s, a, nx, ou, hd, ha, hn, ho => by
  refine .now fun m => ?_
  rw [st_q1u_31]
  unfold s_q1u_31 gs_q1u_31
  rw [br_neg (by omega)]
  simp only [rowsS, bindR_inr, endI]
  by_cases h : a < b.length
  ·rw [br_pos (by omega), if_pos h]
   rfl
  ·have e : a = b.length := by omega
   rw [br_neg (by omega), if_neg h, e]
   rfl
 |d + 1, s, a, nx, ou, hd, ha, hn, ho => by
  have hsN : (s : Int) < N := by omega
  obtain ⟨p1, p2⟩ := rowP_small k K O N hK.2
  have hrow := row_take (N := N) (b := b) (a := a) (n0 := nx) (o0 := ou) hk hK.1 hO
  simp only [rowsS]
  cases ht : takeS b (rowP k K O N) a [] with
  |inl e =>
   rw [ht] at hrow
   have hrow : rowS k K O N b a nx ou = .inl e := hrow
   have hf := ((flt_row ha).1 e hrow).1
   rw [hrow]
   refine .now fun m => ?_
   rw [st_q1u_31]
   unfold s_q1u_31 gs_q1u_31
   rw [br_pos hsN, take_eq hb p1 p2 _ ha, ht]
   simp only
   rw [br_ne hf]
   rfl
  |inr q =>
   rw [ht] at hrow
   have hrow : rowS k K O N b a nx ou = .inr (q.1, (dealS k nx ou q.2).1, (dealS k nx ou q.2).2) := hrow
   rw [hrow]
   obtain ⟨e1, e2, e3, e4⟩ := takeS_bytes b _ _ _ _ ht ha
   simp only [List.length_nil, Nat.zero_add] at e1 e2 e3
   obtain ⟨l1, l2⟩ := evens_len q.2
   simp only [bindR_inr]
   have ih := fun nx' ou' h1 h2 => ri_rows hb hk hK hO hN d (s + 1) q.1 nx' ou' (by omega) e4 h1 h2
   rcases hk with c | c
   ·have hpos : 0 < q.2.length := by
     obtain ⟨d', hd'⟩ : ∃ d', K.toNat = d' + 1 := ⟨K.toNat - 1, by omega⟩
     have hr : rowP k K O N = numP 0 (O - 1) 33 :: (spP :: numP 0 (N - 1) 32 :: (cellsP k O N d' 1 ++ [nlP])) := by
      unfold rowP
      rw [hd']
      simp only [cellsP]
      unfold cellP
      rw [if_pos c, if_pos rfl]
      rfl
     rw [hr, take_num] at ht
     obtain ⟨z, _, ht⟩ := bindR_ok ht
     have hz := (takeS_bytes b _ _ _ _ ht (by
      rename_i hz
      exact numbS_le hz ha)).2.1
     simp at hz
     omega
    have hdl : dealS k nx ou q.2 = (nx ++ q.2.tail, ou ++ [q.2.getD 0 0]) := by unfold dealS; rw [if_pos c]
    rw [hdl]
    have go := ri_deal1 (K0 := K0) (b := b) (K := K) (O := O) (N := N) (a := q.1) (s := s) (row := rowP k K O N) (nums := q.2) (ou := ou ++ [q.2.getD 0 0]) (n0 := nx) c hpos ⟨by omega, by omega⟩ (ih (nx ++ q.2.tail) (ou ++ [q.2.getD 0 0]) (by rw [List.length_append, List.length_tail]; omega) (by rw [List.length_append]; simp; omega)) (by omega) (q.2.length - 1) 0 (by omega)
    refine .step (fun m => ?_) go
    rw [st_q1u_31]
    unfold s_q1u_31 gs_q1u_31
    rw [br_pos hsN, take_eq hb p1 p2 _ ha, ht]
    simp only
    rw [br_ne' rfl, br_eq c, br_pos (by omega), br_pos (by simp only [lim, List.length_append, List.length_cons, List.length_nil]; omega), br_pos (by omega), List.take_zero, List.append_nil]
    rfl
   ·have hdl : dealS k nx ou q.2 = (nx ++ evens q.2, ou ++ odds q.2) := by unfold dealS; rw [if_neg (by omega)]
    rw [hdl]
    have go := ri_deal2 (K0 := K0) (b := b) (K := K) (O := O) (N := N) (a := q.1) (s := s) (row := rowP k K O N) (nums := q.2) (n0 := nx) (o0 := ou) c ⟨by omega, by omega, by omega⟩ (ih (nx ++ evens q.2) (ou ++ odds q.2) (by rw [List.length_append]; omega) (by rw [List.length_append]; omega)) (by omega) q.2.length 0 (by omega)
    refine .step (fun m => ?_) go
    rw [st_q1u_31]
    unfold s_q1u_31 gs_q1u_31
    rw [br_pos hsN, take_eq hb p1 p2 _ ha, ht]
    simp only
    rw [br_ne' rfl, br_eq' (by omega), List.take_zero]
    simp only [evens, odds, List.append_nil]
    rfl

/-- The list of a line's pieces is made. -/
theorem ri_build (hk : k = 1 ∨ k = 2) (hK : 1 ≤ K ∧ K ≤ 64) {a : Nat} {v : Option R}
  (next : Reach (fun m => (run_q1u K0 m).2.2.2.2.2.2.2.2.1 b (a : Int) 0 0 0 0 0 [] [] k K O N [] [] (rowP k K O N)) v) :
  ∀ (d x : Nat) (row : List Pc), x + d = K.toNat -> row ++ cellsP k O N d x ++ [nlP] = rowP k K O N -> row.length ≤ 4 * x →
   Reach (fun m => (run_q1u K0 m).2.2.2.2.2.2.1 b (a : Int) (x : Int) 0 0 0 0 [] [] (ByteArray.mk #[32]) 0 0 0 (ByteArray.mk #[10]) 0 0 0 k K O N [] [] ByteArray.empty 0 (N - 1) 32 ByteArray.empty 0 (O - 1) 33 row) v
 |0, x, row, hd, hr, hl => by
  refine .step (fun m => ?_) next
  rw [st_q1u_20]
  unfold s_q1u_20 gs_q1u_20
  rw [br_neg (by omega), br_pos (by simp only [lim, List.length_append, List.length_cons, List.length_nil]; omega)]
  simp only [cellsP, List.append_nil] at hr
  rw [← hr]
  rfl
 |d + 1, x, row, hd, hr, hl => by
  have hxK : (x : Int) < K := by omega
  have hc : (cellP k O N x).length ≤ 4 := by
   unfold cellP
   split <;> split <;> simp
  have L : ∀ n : Nat, n ≤ 300 -> n * 40 ≤ lim := fun n h => by simp only [lim]; omega
  have again := ri_build hk hK next d (x + 1) (row ++ cellP k O N x) (by omega) (by rw [← hr]; simp only [cellsP, List.append_assoc]) (by rw [List.length_append]; omega)
  have g27 : ∀ row' : List Pc, row'.length ≤ 290 -> row' ++ (if k = 2 then [slP, numP 0 (O - 1) 33] else []) = row ++ cellP k O N x →
    Reach (fun m => (run_q1u K0 m).2.2.2.2.2.2.2.2.2.2.2.2 b (a : Int) (x : Int) 0 0 0 0 [] [] (ByteArray.mk #[32]) 0 0 0 (ByteArray.mk #[10]) 0 0 0 k K O N [] [] ByteArray.empty 0 (N - 1) 32 ByteArray.empty 0 (O - 1) 33 row') v := by
   intro row' h1 h2
   refine .step (fun m => ?_) again
   rw [st_q1u_27]
   unfold s_q1u_27 gs_q1u_27
   rw [← h2, wr ((x : Int) + 1) (by omega) (by omega)]
   by_cases c : k = 2
   ·rw [br_eq c, br_pos (L _ (by simp only [List.length_append, List.length_cons, List.length_nil]; omega)), if_pos c]
    rfl
   ·rw [br_eq' c, if_neg c, List.append_nil]
    rfl
  have g26 : ∀ row' : List Pc, row'.length ≤ 280 -> row' ++ [numP 0 (N - 1) 32] ++ (if k = 2 then [slP, numP 0 (O - 1) 33] else []) = row ++ cellP k O N x →
    Reach (fun m => (run_q1u K0 m).2.2.2.2.2.2.2.2.2.1 b (a : Int) (x : Int) 0 0 0 0 [] [] (ByteArray.mk #[32]) 0 0 0 (ByteArray.mk #[10]) 0 0 0 k K O N [] [] ByteArray.empty 0 (N - 1) 32 ByteArray.empty 0 (O - 1) 33 row') v := by
   intro row' h1 h2
   refine .step (fun m => ?_) (g27 (row' ++ [numP 0 (N - 1) 32]) (by simp; omega) h2)
   rw [st_q1u_26]
   unfold s_q1u_26 gs_q1u_26
   rw [br_pos (L _ (by simp only [List.length_append, List.length_cons, List.length_nil]; omega))]
   rfl
  have g24 : ∀ row' : List Pc, row'.length ≤ 270 -> row' ++ (if k = 1 ∨ 0 < x then [spP] else []) ++ [numP 0 (N - 1) 32] ++ (if k = 2 then [slP, numP 0 (O - 1) 33] else []) = row ++ cellP k O N x →
    Reach (fun m => (run_q1u K0 m).2.2.2.2.2.2.2.1 b (a : Int) (x : Int) 0 0 0 0 [] [] (ByteArray.mk #[32]) 0 0 0 (ByteArray.mk #[10]) 0 0 0 k K O N [] [] ByteArray.empty 0 (N - 1) 32 ByteArray.empty 0 (O - 1) 33 row') v := by
   intro row' h1 h2
   by_cases c : k = 1 ∨ 0 < x
   ·rw [if_pos c] at h2
    refine .step (fun m => ?_) (g26 (row' ++ [spP]) (by simp; omega) h2)
    rw [st_q1u_24]
    unfold s_q1u_24 gs_q1u_24
    by_cases c1 : k = 1
    ·rw [br_eq c1, br_pos (L _ (by simp only [List.length_append, List.length_cons, List.length_nil]; omega))]
     rfl
    ·rw [br_eq' c1, br_pos (by omega), br_pos (L _ (by simp only [List.length_append, List.length_cons, List.length_nil]; omega))]
     rfl
   ·rw [if_neg c, List.append_nil] at h2
    refine .step (fun m => ?_) (g26 row' (by omega) h2)
    rw [st_q1u_24]
    unfold s_q1u_24 gs_q1u_24
    rw [br_eq' (by omega), br_neg (by omega)]
  have lx : row.length ≤ 260 := by omega
  by_cases c : k = 1 ∧ x = 0
  ·refine .step (fun m => ?_) (g24 (row ++ [numP 0 (O - 1) 33]) (by simp; omega) (by
    unfold cellP
    rw [if_pos c.1, if_pos c.2, if_pos (.inl c.1), if_neg (by omega)]
    simp))
   rw [st_q1u_20]
   unfold s_q1u_20 gs_q1u_20
   rw [br_pos hxK, br_eq c.1, br_eq (by omega), br_pos (L _ (by simp only [List.length_append, List.length_cons, List.length_nil]; omega))]
   rfl
  ·refine .step (fun m => ?_) (g24 row (by omega) (by
    unfold cellP
    rcases hk with c1 | c1
    ·rw [if_pos c1, if_neg (show ¬ x = 0 from fun h => c ⟨c1, h⟩), if_pos (.inl c1), if_neg (by omega)]
     simp
    ·rw [if_neg (show ¬ k = 1 by omega), if_pos c1]
     by_cases c2 : 0 < x
     ·rw [if_pos c2, if_pos (.inr c2)]
      simp
     ·rw [if_neg c2, if_neg (by omega)]
      simp))
   rw [st_q1u_20]
   unfold s_q1u_20 gs_q1u_20
   rw [br_pos hxK]
   by_cases c1 : k = 1
   ·rw [br_eq c1, br_eq' (by omega)]
   ·rw [br_eq' c1]

/-- The lines, from the first piece of the list on. -/
theorem ri_body (hb : b.length ≤ 16777216) (hk : k = 1 ∨ k = 2) (hK : 1 ≤ K ∧ K ≤ 64) (hO : k = 1 -> O = 2) (hN : 1 ≤ N ∧ N ≤ 1024) {a : Nat} (ha : a ≤ b.length) :
  Reach (fun m => (run_q1u K0 m).2.2.2.2.2.1 b (a : Int) 0 0 0 0 [] [] (ByteArray.mk #[32]) 0 0 0 (ByteArray.mk #[10]) 0 0 0 k K O N [] [] ByteArray.empty 0 (N - 1) 32 ByteArray.empty 0 (O - 1) 33)
   (outR (fun e p => K0 0 0 0 0 e p [] []) (fun m => K0 m.1 m.2.1 m.2.2.1 m.2.2.2.1 0 (b.length : Int) m.2.2.2.2.1 m.2.2.2.2.2) (bindR (rowsS k K O N b N.toNat a [] []) (endI k K O N b))) := by
 refine .step (fun m => ?_) (ri_build (K0 := K0) (b := b) hk hK (a := a) (ri_rows (K0 := K0) hb hk hK hO hN N.toNat 0 a [] [] (by omega) ha (by simp) (by simp)) K.toNat 0 [] (by omega) rfl (by simp))
 rw [st_q1u_18]
 unfold s_q1u_18 gs_q1u_18
 rfl

theorem ri_bad {a e o5 o6 o7 o8 : Int} {nums : List Int} (he : e ≠ 0) : Reach (fun m => (run_q1u K0 m).2.2.1 b a e 0 0 0 0 [] [] (ByteArray.mk #[32]) 0 0 0 (ByteArray.mk #[10]) 0 0 0 o5 o6 o7 o8 [] [] nums) (K0 0 0 0 0 e a [] []) := by
 refine .now fun m => ?_
 rw [st_q1u_12]
 unfold s_q1u_12 gs_q1u_12
 rw [br_ne he]

theorem ri_17 {a : Int} {k x y z : Int} {v : Option R} (hy : -1000 ≤ y ∧ y ≤ 5000) (hz : -1000 ≤ z ∧ z ≤ 5000)
  (next : Reach (fun m => (run_q1u K0 m).2.2.2.2.2.1 b a 0 0 0 0 [] [] (ByteArray.mk #[32]) 0 0 0 (ByteArray.mk #[10]) 0 0 0 k x y z [] [] ByteArray.empty 0 (z - 1) 32 ByteArray.empty 0 (y - 1) 33) v) :
  Reach (fun m => (run_q1u K0 m).2.2.2.2.1 b a 0 0 0 0 [] [] (ByteArray.mk #[32]) 0 0 0 (ByteArray.mk #[10]) 0 0 0 k x y z [] []) v := by
 refine .step (fun m => ?_) next
 rw [st_q1u_17]
 unfold s_q1u_17 gs_q1u_17
 simp only [twice_eq, thrice_eq, both_same]
 rw [wr (z - 1) (by omega) (by omega), wr (y - 1) (by omega) (by omega)]

theorem ri_two {a : Int} {x y z : Int} {v : Option R} (hy : -1000 ≤ y ∧ y ≤ 5000) (hz : -1000 ≤ z ∧ z ≤ 5000)
  (next : Reach (fun m => (run_q1u K0 m).2.2.2.2.2.1 b a 0 0 0 0 [] [] (ByteArray.mk #[32]) 0 0 0 (ByteArray.mk #[10]) 0 0 0 2 x y z [] [] ByteArray.empty 0 (z - 1) 32 ByteArray.empty 0 (y - 1) 33) v) :
  Reach (fun m => (run_q1u K0 m).2.2.1 b a 0 0 0 0 0 [] [] (ByteArray.mk #[32]) 0 0 0 (ByteArray.mk #[10]) 0 0 0 2 0 2 0 [] [] [x, y, z]) v := by
 have hw : IntKind.i64.wrap ((([x, y, z] : List Int).length : Int) - 1) = 2 := by rw [wr _ (by simp) (by simp)]; rfl
 have r14 : Reach (fun m => (run_q1u K0 m).2.2.2.1 b a 0 0 0 0 [] [] (ByteArray.mk #[32]) 0 0 0 (ByteArray.mk #[10]) 0 0 0 2 0 2 0 [] [] [x, y, z]) v := by
  refine .step (fun m => ?_) (ri_17 hy hz next)
  rw [st_q1u_14]
  unfold s_q1u_14 gs_q1u_14
  simp only [twice_eq, thrice_eq, both_same]
  rw [br_pos (by simp), hw, br_pos (by simp), br_eq rfl, br_pos (by simp)]
  rfl
 refine .step (fun m => ?_) r14
 rw [st_q1u_12]
 unfold s_q1u_12 gs_q1u_12
 rw [br_ne' rfl]

theorem ri_one {a : Int} {x z : Int} {v : Option R} (hz : -1000 ≤ z ∧ z ≤ 5000)
  (next : Reach (fun m => (run_q1u K0 m).2.2.2.2.2.1 b a 0 0 0 0 [] [] (ByteArray.mk #[32]) 0 0 0 (ByteArray.mk #[10]) 0 0 0 1 x 2 z [] [] ByteArray.empty 0 (z - 1) 32 ByteArray.empty 0 (2 - 1) 33) v) :
  Reach (fun m => (run_q1u K0 m).2.2.1 b a 0 0 0 0 0 [] [] (ByteArray.mk #[32]) 0 0 0 (ByteArray.mk #[10]) 0 0 0 1 0 2 0 [] [] [x, z]) v := by
 have hw : IntKind.i64.wrap ((([x, z] : List Int).length : Int) - 1) = 1 := by rw [wr _ (by simp) (by simp)]; rfl
 have r14 : Reach (fun m => (run_q1u K0 m).2.2.2.1 b a 0 0 0 0 [] [] (ByteArray.mk #[32]) 0 0 0 (ByteArray.mk #[10]) 0 0 0 1 0 2 0 [] [] [x, z]) v := by
  refine .step (fun m => ?_) (ri_17 ⟨by omega, by omega⟩ hz next)
  rw [st_q1u_14]
  unfold s_q1u_14 gs_q1u_14
  simp only [twice_eq, thrice_eq, both_same]
  rw [br_pos (by simp), hw, br_pos (by simp), br_eq' (by decide)]
  rfl
 refine .step (fun m => ?_) r14
 rw [st_q1u_12]
 unfold s_q1u_12 gs_q1u_12
 rw [br_ne' rfl]

theorem rimport_eq : l_q1u b K0 = K0 (impS b).k (impS b).K (impS b).O (impS b).N (impS b).e (impS b).p (impS b).nx (impS b).ou := by
 refine evl_eq ?_
 unfold impS
 by_cases h : (b.length : Int) > 16777216
 ·rw [if_pos h]
  refine .now fun m => ?_
  unfold e_q1u ge_q1u
  rw [br_pos h]
 ·rw [if_neg h]
  have hb : b.length ≤ 16777216 := by omega
  have eOut : (match (match readS b with
    |.inl e => (⟨0, 0, 0, 0, e.1, e.2, [], []⟩ : Imp)
    |.inr m => ⟨m.1, m.2.1, m.2.2.1, m.2.2.2.1, 0, (b.length : Int), m.2.2.2.2.1, m.2.2.2.2.2⟩) with
    |i => K0 i.k i.K i.O i.N i.e i.p i.nx i.ou) = outR (fun e p => K0 0 0 0 0 e p [] []) (fun m => K0 m.1 m.2.1 m.2.2.1 m.2.2.2.1 0 (b.length : Int) m.2.2.2.2.1 m.2.2.2.2.2) (readS b) := by
   cases readS b <;> rfl
  refine Reach.of_eq ?_ eOut.symm
  refine .same (G := fun m => (run_q1u K0 m).1 b 0 0 0 0 [] [] ByteArray.empty 1 64 1 ByteArray.empty 1 64 33 ByteArray.empty 1 1024 3) (fun m => ?_) ?_
  ·unfold e_q1u ge_q1u
   rw [br_neg h]
  refine .step (G := fun m => (run_q1u K0 m).2.1 b 0 0 0 0 [] [] ByteArray.empty 1 64 1 ByteArray.empty 1 64 33 ByteArray.empty 1 1024 3 (ByteArray.mk #[32]) 0 0 0 (ByteArray.mk #[10]) 0 0 0) (fun m => ?_) ?_
  ·rw [st_q1u_4]
   unfold s_q1u_4 gs_q1u_4
   rfl
  have eR : readS b = bindR (headI b) fun h => bindR (rowsS h.1 h.2.1 h.2.2.1 h.2.2.2.1 b h.2.2.2.1.toNat h.2.2.2.2 [] []) (endI h.1 h.2.1 h.2.2.1 h.2.2.2.1 b) := rfl
  have hfl := (flt_head b).1
  have hhd := fun h hh => head_there (b := b) (h := h) hh
  have hle := (flt_head b).2
  rw [eR]
  -- the first line by pieces
  have t1 : takeS b [((ByteArray.mk #[100, 102, 97, 32]), (0, (0, 0))), (ByteArray.empty, (1, (64, 1))), ((ByteArray.mk #[32]), (0, (0, 0))), (ByteArray.empty, (1, (1024, 3))), ((ByteArray.mk #[10]), (0, (0, 0)))] 0 [] =
    bindR (wantS [100, 102, 97, 32] b 0) fun a0 => bindR (numbS 1 64 1 b a0) fun q1 => bindR (wantS [32] b q1.2) fun a1 => bindR (numbS 1 1024 3 b a1) fun q3 => bindR (wantS [10] b q3.2) fun a3 => .inr (a3, [q1.1, q3.1]) := rfl
  have t2 : takeS b [((ByteArray.mk #[109, 101, 97, 108, 121, 32]), (0, (0, 0))), (ByteArray.empty, (1, (64, 1))), ((ByteArray.mk #[32]), (0, (0, 0))), (ByteArray.empty, (1, (64, 33))), ((ByteArray.mk #[32]), (0, (0, 0))), (ByteArray.empty, (1, (1024, 3))), ((ByteArray.mk #[10]), (0, (0, 0)))] 0 [] =
    bindR (wantS [109, 101, 97, 108, 121, 32] b 0) fun a0 => bindR (numbS 1 64 1 b a0) fun q1 => bindR (wantS [32] b q1.2) fun a1 => bindR (numbS 1 64 33 b a1) fun q2 => bindR (wantS [32] b q2.2) fun a2 => bindR (numbS 1 1024 3 b a2) fun q3 => bindR (wantS [10] b q3.2) fun a3 => .inr (a3, [q1.1, q2.1, q3.1]) := rfl
  have small : ∀ (p0 : Pc) (l : List Pc), p0.1.size ≤ 1000 -> (∀ p ∈ l, p.1.size ≤ 1000) -> ∀ p ∈ p0 :: l, p.1.size ≤ 1000 := fun p0 l h0 hl p hp => (List.mem_cons.1 hp).elim (fun e => e ▸ h0) (hl p)
  have k1 : ∀ p ∈ ([((ByteArray.mk #[100, 102, 97, 32]), (0, (0, 0))), (ByteArray.empty, (1, (64, 1))), ((ByteArray.mk #[32]), (0, (0, 0))), (ByteArray.empty, (1, (1024, 3))), ((ByteArray.mk #[10]), (0, (0, 0)))] : List Pc), p.1.size ≤ 1000 :=
   small _ _ (by decide) (small _ _ (by decide) (small _ _ (by decide) (small _ _ (by decide) (small _ _ (by decide) (fun p hp => by simp at hp)))))
  have k2 : ∀ p ∈ ([((ByteArray.mk #[109, 101, 97, 108, 121, 32]), (0, (0, 0))), (ByteArray.empty, (1, (64, 1))), ((ByteArray.mk #[32]), (0, (0, 0))), (ByteArray.empty, (1, (64, 33))), ((ByteArray.mk #[32]), (0, (0, 0))), (ByteArray.empty, (1, (1024, 3))), ((ByteArray.mk #[10]), (0, (0, 0)))] : List Pc), p.1.size ≤ 1000 :=
   small _ _ (by decide) (small _ _ (by decide) (small _ _ (by decide) (small _ _ (by decide) (small _ _ (by decide) (small _ _ (by decide) (small _ _ (by decide) (fun p hp => by simp at hp)))))))
  have e1 := fun K1 => take_eq (R := R) hb (l := [((ByteArray.mk #[100, 102, 97, 32]), (0, (0, 0))), (ByteArray.empty, (1, (64, 1))), ((ByteArray.mk #[32]), (0, (0, 0))), (ByteArray.empty, (1, (1024, 3))), ((ByteArray.mk #[10]), (0, (0, 0)))]) (by decide) k1 K1 (a := 0) (Nat.zero_le _)
  have e2 := fun K1 => take_eq (R := R) hb (l := [((ByteArray.mk #[109, 101, 97, 108, 121, 32]), (0, (0, 0))), (ByteArray.empty, (1, (64, 1))), ((ByteArray.mk #[32]), (0, (0, 0))), (ByteArray.empty, (1, (64, 33))), ((ByteArray.mk #[32]), (0, (0, 0))), (ByteArray.empty, (1, (1024, 3))), ((ByteArray.mk #[10]), (0, (0, 0)))]) (by decide) k2 K1 (a := 0) (Nat.zero_le _)
  have t1' : ¬ b[0]? = some 109 -> takeS b [((ByteArray.mk #[100, 102, 97, 32]), (0, (0, 0))), (ByteArray.empty, (1, (64, 1))), ((ByteArray.mk #[32]), (0, (0, 0))), (ByteArray.empty, (1, (1024, 3))), ((ByteArray.mk #[10]), (0, (0, 0)))] 0 [] =
    bindR (headI b) fun h => .inr (h.2.2.2.2, [h.2.1, h.2.2.2.1]) := by
   intro h0
   rw [t1]
   unfold headI
   rw [if_neg h0]
   simp only [bindR_comp, bindR_inr]
  have t2' : b[0]? = some 109 -> takeS b [((ByteArray.mk #[109, 101, 97, 108, 121, 32]), (0, (0, 0))), (ByteArray.empty, (1, (64, 1))), ((ByteArray.mk #[32]), (0, (0, 0))), (ByteArray.empty, (1, (64, 33))), ((ByteArray.mk #[32]), (0, (0, 0))), (ByteArray.empty, (1, (1024, 3))), ((ByteArray.mk #[10]), (0, (0, 0)))] 0 [] =
    bindR (headI b) fun h => .inr (h.2.2.2.2, [h.2.1, h.2.2.1, h.2.2.2.1]) := by
   intro h0
   rw [t2]
   unfold headI
   rw [if_pos h0]
   simp only [bindR_comp, bindR_inr]
  have hkind : ∀ h, headI b = .inr h -> (b[0]? = some 109 -> h.1 = 2) ∧ (¬ b[0]? = some 109 -> h.1 = 1) := by
   intro h hh
   unfold headI at hh
   constructor
   ·intro h0
    rw [if_pos h0] at hh
    obtain ⟨_, _, hh⟩ := bindR_ok hh
    obtain ⟨_, _, hh⟩ := bindR_ok hh
    obtain ⟨_, _, hh⟩ := bindR_ok hh
    obtain ⟨_, _, hh⟩ := bindR_ok hh
    obtain ⟨_, _, hh⟩ := bindR_ok hh
    obtain ⟨_, _, hh⟩ := bindR_ok hh
    obtain ⟨_, _, hh⟩ := bindR_ok hh
    obtain rfl := Sum.inr.inj hh
    rfl
   ·intro h0
    rw [if_neg h0] at hh
    obtain ⟨_, _, hh⟩ := bindR_ok hh
    obtain ⟨_, _, hh⟩ := bindR_ok hh
    obtain ⟨_, _, hh⟩ := bindR_ok hh
    obtain ⟨_, _, hh⟩ := bindR_ok hh
    obtain ⟨_, _, hh⟩ := bindR_ok hh
    obtain rfl := Sum.inr.inj hh
    rfl
  simp only [Int.natCast_zero] at e1 e2
  cases hY : headI b with
  |inl e =>
   have hne := (hfl e hY).1
   rw [hY] at t1' t2'
   refine .step (fun m => ?_) (ri_bad (K0 := K0) (b := b) (a := e.2) (o5 := if b[0]? = some 109 then 2 else 1) (o6 := 0) (o7 := 2) (o8 := 0) (nums := []) hne)
   rw [st_q1u_5]
   unfold s_q1u_5 gs_q1u_5
   by_cases h0 : b[0]? = some 109
   ·have hlt : 0 < b.length := (List.getElem?_eq_some_iff.1 h0).1
    have g0 : b.getD 0 0 = 109 := by rw [List.getD_eq_getElem?_getD, h0]; rfl
    rw [br_pos (by omega), br_pos (by omega), br_eq g0, e2, t2' h0, if_pos h0]
    rfl
   ·by_cases hl : 0 < b.length
    ·have g0 : ¬ b.getD 0 0 = 109 := by
      intro hx
      apply h0
      rw [List.getElem?_eq_getElem hl]
      rw [getD_of 0 hl] at hx
      rw [hx]
     rw [br_pos (by omega), br_pos (by omega), br_eq' g0, e1, t1' h0, if_neg h0]
     rfl
    ·rw [br_neg (by omega), e1, t1' h0, if_neg h0]
     rfl
  |inr hd =>
   obtain ⟨f1, f2, f3, f4, f5, _⟩ := hhd hd hY
   obtain ⟨q2, q1⟩ := hkind hd hY
   have ha := hle hd hY
   rw [hY] at t1' t2'
   simp only [bindR_inr] at t1' t2' ⊢
   have body := ri_body (K0 := K0) (b := b) (k := hd.1) (K := hd.2.1) (O := hd.2.2.1) (N := hd.2.2.2.1) hb f1 f2 f4 f5 ha
   by_cases h0 : b[0]? = some 109
   ·have hlt : 0 < b.length := (List.getElem?_eq_some_iff.1 h0).1
    have g0 : b.getD 0 0 = 109 := by rw [List.getD_eq_getElem?_getD, h0]; rfl
    have hk2 := q2 h0
    rw [hk2] at body ⊢
    refine .step (fun m => ?_) (ri_two ⟨by omega, by omega⟩ ⟨by omega, by omega⟩ body)
    rw [st_q1u_5]
    unfold s_q1u_5 gs_q1u_5
    rw [br_pos (by omega), br_pos (by omega), br_eq g0, e2, t2' h0]
   ·have hk1 := q1 h0
    have o2 := f4 hk1
    rw [hk1, o2] at body ⊢
    refine .step (fun m => ?_) (ri_one ⟨by omega, by omega⟩ body)
    rw [st_q1u_5]
    unfold s_q1u_5 gs_q1u_5
    by_cases hl : 0 < b.length
    ·have g0 : ¬ b.getD 0 0 = 109 := by
      intro hx
      apply h0
      rw [List.getElem?_eq_getElem hl]
      rw [getD_of 0 hl] at hx
      rw [hx]
     rw [br_pos (by omega), br_pos (by omega), br_eq' g0, e1, t1' h0]
    ·rw [br_neg (by omega), e1, t1' h0]
end refimport

abbrev KT0_q1v (R : Type) := Int -> Int -> Int -> Int -> Int -> Int -> Int -> Int -> (List Int) -> (List Int) -> (List Int) -> (List Int) -> (List Int) -> Option R
abbrev LT_q1v := {R : Type} -> Int -> Int -> Int -> (List Ent) -> (List Int) -> Int -> (KT0_q1v R) -> Option R
abbrev GT_q1v_18 (R : Type) := (List Int) -> Int -> Int -> Int -> Int -> Int -> Int -> Int -> Int -> (List Int) -> (List Int) -> (List Int) -> (List Int) -> (List Int) -> Int -> Int -> Int -> Int -> Int -> Int -> (List Int) -> (List Int) -> (List Int) -> (List Int) -> (List Int) -> Option R
abbrev gs_q1v_18 (l_q1n : LT_q1n) (l_q1r : LT_q1r) (l_q1u : LT_q1u) {R : Type} (g47_18 : GT_q1v_18 R) (K0 : KT0_q1v R) (b : List Int) (vat vend o0 o0_1 o0_2 o0_3 o0_4 o0_5 : Int) (o1 o2 o3 o4 o5 : List Int) (o6 o6_1 o6_2 o6_3 o6_4 o6_5 : Int) (o7 o8 o9 o10 o11 : List Int) : Option R :=
 bi (decide (vend < (b.length : Int))) (bi (decide (0 ≤ vend ∧ vend < ((b.length : Nat) : Int))) (bi ((b.getD vend.toNat 0) == 61) (bi (decide (0 ≤ (IntKind.i64.wrap (vend - 1)) ∧ (IntKind.i64.wrap (vend - 1)) < ((b.length : Nat) : Int))) (bi (!((b.getD ((IntKind.i64.wrap (vend - 1)).toNat) 0) == 10))
 (g47_18 b vat (IntKind.i64.wrap (vend + 1)) o0 o0_1 o0_2 o0_3 o0_4 o0_5 o1 o2 o3 o4 o5 o6 o6_1 o6_2 o6_3 o6_4 o6_5 o7 o8 o9 o10 o11) (bi (vend == (b.length : Int)) (K0 o6 o6_1 o6_2 o6_3 o6_4 o6_5 vend 6 o7 o8 o9 o10 o11) (bi (decide (0 ≤ vat ∧ vat ≤ vend ∧ vend ≤ ((b.length : Nat) : Int))) (l_q1u ((b.drop vat.toNat).take (vend.toNat - vat.toNat))
 (fun r22 r23 r24 r25 r26 r27 r28 r29 => bi (r26 != 0) (K0 o6 o6_1 o6_2 o6_3 o6_4 o6_5 (IntKind.i64.wrap (vat + r27)) r26 o7 o8 o9 o10 o11) (l_q1n b vend (ByteArray.mk #[61, 32]) (fun r30 r31 => bi (r31 == 0) (bi (decide (r30 < (b.length : Int))) (bi (decide (0 ≤ r30 ∧ r30 < ((b.length : Nat) : Int))) (bi ((b.getD r30.toNat 0) == 121) (bi (r31 == 0)
 (l_q1n b (IntKind.i64.wrap (r30 + 1)) (ByteArray.mk #[10]) (fun r32 r33 => K0 2 r22 r23 r24 r25 2 r32 r33 ([] : List Int) r28 r29 o10 o11)) (K0 2 r22 r23 r24 r25 2 (IntKind.i64.wrap (r30 + 1)) r31 ([] : List Int) r28 r29 o10 o11)) (bi (r31 == 0) (l_q1n b r30 (ByteArray.mk #[110]) (fun r34 r35 => bi (r35 == 0) (l_q1r b r34 false (fun r36 r37 r38 => bi (r37 == 0)
 (l_q1n b r36 (ByteArray.mk #[10]) (fun r39 r40 => K0 2 r22 r23 r24 r25 3 r39 r40 ([] : List Int) r28 r29 o10 r38)) (K0 2 r22 r23 r24 r25 3 r36 r37 ([] : List Int) r28 r29 o10 r38))) (bi (r35 == 0) (l_q1n b r34 (ByteArray.mk #[10]) (fun r41 r42 => K0 2 r22 r23 r24 r25 3 r41 r42 ([] : List Int) r28 r29 o10 o11))
 (K0 2 r22 r23 r24 r25 3 r34 r35 ([] : List Int) r28 r29 o10 o11)))) (bi (r31 == 0) (l_q1n b r30 (ByteArray.mk #[10]) (fun r43 r44 => K0 2 r22 r23 r24 r25 o6_5 r43 r44 ([] : List Int) r28 r29 o10 o11)) (K0 2 r22 r23 r24 r25 o6_5 r30 r31 ([] : List Int) r28 r29 o10 o11)))) none) (bi (r31 == 0) (l_q1n b r30 (ByteArray.mk #[110]) (fun r45 r46 => bi (r46 == 0)
 (l_q1r b r45 false (fun r47 r48 r49 => bi (r48 == 0) (l_q1n b r47 (ByteArray.mk #[10]) (fun r50 r51 => K0 2 r22 r23 r24 r25 3 r50 r51 ([] : List Int) r28 r29 o10 r49)) (K0 2 r22 r23 r24 r25 3 r47 r48 ([] : List Int) r28 r29 o10 r49))) (bi (r46 == 0) (l_q1n b r45 (ByteArray.mk #[10]) (fun r52 r53 => K0 2 r22 r23 r24 r25 3 r52 r53 ([] : List Int) r28 r29 o10 o11))
 (K0 2 r22 r23 r24 r25 3 r45 r46 ([] : List Int) r28 r29 o10 o11)))) (bi (r31 == 0) (l_q1n b r30 (ByteArray.mk #[10]) (fun r54 r55 => K0 2 r22 r23 r24 r25 o6_5 r54 r55 ([] : List Int) r28 r29 o10 o11)) (K0 2 r22 r23 r24 r25 o6_5 r30 r31 ([] : List Int) r28 r29 o10 o11)))) (bi (r31 == 0) (l_q1n b r30 (ByteArray.mk #[110]) (fun r56 r57 => bi (r57 == 0)
 (l_q1r b r56 false (fun r58 r59 r60 => bi (r59 == 0) (l_q1n b r58 (ByteArray.mk #[10]) (fun r61 r62 => K0 2 r22 r23 r24 r25 3 r61 r62 ([] : List Int) r28 r29 o10 r60)) (K0 2 r22 r23 r24 r25 3 r58 r59 ([] : List Int) r28 r29 o10 r60))) (bi (r57 == 0) (l_q1n b r56 (ByteArray.mk #[10]) (fun r63 r64 => K0 2 r22 r23 r24 r25 3 r63 r64 ([] : List Int) r28 r29 o10 o11))
 (K0 2 r22 r23 r24 r25 3 r56 r57 ([] : List Int) r28 r29 o10 o11)))) (bi (r31 == 0) (l_q1n b r30 (ByteArray.mk #[10]) (fun r65 r66 => K0 2 r22 r23 r24 r25 o6_5 r65 r66 ([] : List Int) r28 r29 o10 o11)) (K0 2 r22 r23 r24 r25 o6_5 r30 r31 ([] : List Int) r28 r29 o10 o11))))))) none))) none)
 (g47_18 b vat (IntKind.i64.wrap (vend + 1)) o0 o0_1 o0_2 o0_3 o0_4 o0_5 o1 o2 o3 o4 o5 o6 o6_1 o6_2 o6_3 o6_4 o6_5 o7 o8 o9 o10 o11)) none) (bi (vend == (b.length : Int)) (K0 o6 o6_1 o6_2 o6_3 o6_4 o6_5 vend 6 o7 o8 o9 o10 o11) (bi (decide (0 ≤ vat ∧ vat ≤ vend ∧ vend ≤ ((b.length : Nat) : Int))) (l_q1u ((b.drop vat.toNat).take (vend.toNat - vat.toNat))
 (fun r67 r68 r69 r70 r71 r72 r73 r74 => bi (r71 != 0) (K0 o6 o6_1 o6_2 o6_3 o6_4 o6_5 (IntKind.i64.wrap (vat + r72)) r71 o7 o8 o9 o10 o11) (l_q1n b vend (ByteArray.mk #[61, 32]) (fun r75 r76 => bi (r76 == 0) (bi (decide (r75 < (b.length : Int))) (bi (decide (0 ≤ r75 ∧ r75 < ((b.length : Nat) : Int))) (bi ((b.getD r75.toNat 0) == 121) (bi (r76 == 0)
 (l_q1n b (IntKind.i64.wrap (r75 + 1)) (ByteArray.mk #[10]) (fun r77 r78 => K0 2 r67 r68 r69 r70 2 r77 r78 ([] : List Int) r73 r74 o10 o11)) (K0 2 r67 r68 r69 r70 2 (IntKind.i64.wrap (r75 + 1)) r76 ([] : List Int) r73 r74 o10 o11)) (bi (r76 == 0) (l_q1n b r75 (ByteArray.mk #[110]) (fun r79 r80 => bi (r80 == 0) (l_q1r b r79 false (fun r81 r82 r83 => bi (r82 == 0)
 (l_q1n b r81 (ByteArray.mk #[10]) (fun r84 r85 => K0 2 r67 r68 r69 r70 3 r84 r85 ([] : List Int) r73 r74 o10 r83)) (K0 2 r67 r68 r69 r70 3 r81 r82 ([] : List Int) r73 r74 o10 r83))) (bi (r80 == 0) (l_q1n b r79 (ByteArray.mk #[10]) (fun r86 r87 => K0 2 r67 r68 r69 r70 3 r86 r87 ([] : List Int) r73 r74 o10 o11))
 (K0 2 r67 r68 r69 r70 3 r79 r80 ([] : List Int) r73 r74 o10 o11)))) (bi (r76 == 0) (l_q1n b r75 (ByteArray.mk #[10]) (fun r88 r89 => K0 2 r67 r68 r69 r70 o6_5 r88 r89 ([] : List Int) r73 r74 o10 o11)) (K0 2 r67 r68 r69 r70 o6_5 r75 r76 ([] : List Int) r73 r74 o10 o11)))) none) (bi (r76 == 0) (l_q1n b r75 (ByteArray.mk #[110]) (fun r90 r91 => bi (r91 == 0)
 (l_q1r b r90 false (fun r92 r93 r94 => bi (r93 == 0) (l_q1n b r92 (ByteArray.mk #[10]) (fun r95 r96 => K0 2 r67 r68 r69 r70 3 r95 r96 ([] : List Int) r73 r74 o10 r94)) (K0 2 r67 r68 r69 r70 3 r92 r93 ([] : List Int) r73 r74 o10 r94))) (bi (r91 == 0) (l_q1n b r90 (ByteArray.mk #[10]) (fun r97 r98 => K0 2 r67 r68 r69 r70 3 r97 r98 ([] : List Int) r73 r74 o10 o11))
 (K0 2 r67 r68 r69 r70 3 r90 r91 ([] : List Int) r73 r74 o10 o11)))) (bi (r76 == 0) (l_q1n b r75 (ByteArray.mk #[10]) (fun r99 r100 => K0 2 r67 r68 r69 r70 o6_5 r99 r100 ([] : List Int) r73 r74 o10 o11)) (K0 2 r67 r68 r69 r70 o6_5 r75 r76 ([] : List Int) r73 r74 o10 o11)))) (bi (r76 == 0) (l_q1n b r75 (ByteArray.mk #[110]) (fun r101 r102 => bi (r102 == 0)
 (l_q1r b r101 false (fun r103 r104 r105 => bi (r104 == 0) (l_q1n b r103 (ByteArray.mk #[10]) (fun r106 r107 => K0 2 r67 r68 r69 r70 3 r106 r107 ([] : List Int) r73 r74 o10 r105)) (K0 2 r67 r68 r69 r70 3 r103 r104 ([] : List Int) r73 r74 o10 r105))) (bi (r102 == 0) (l_q1n b r101 (ByteArray.mk #[10]) (fun r108 r109 =>
 K0 2 r67 r68 r69 r70 3 r108 r109 ([] : List Int) r73 r74 o10 o11)) (K0 2 r67 r68 r69 r70 3 r101 r102 ([] : List Int) r73 r74 o10 o11)))) (bi (r76 == 0) (l_q1n b r75 (ByteArray.mk #[10]) (fun r110 r111 => K0 2 r67 r68 r69 r70 o6_5 r110 r111 ([] : List Int) r73 r74 o10 o11)) (K0 2 r67 r68 r69 r70 o6_5 r75 r76 ([] : List Int) r73 r74 o10 o11))))))) none))

def s_q1v_18 {R : Type} := @gs_q1v_18 @l_q1n @l_q1r @l_q1u R

abbrev ge_q1v (l_q1n : LT_q1n) (l_q1r : LT_q1r) (l_q1u : LT_q1u) {R : Type} (g47_18 : GT_q1v_18 R) (K0 : KT0_q1v R) (l l_1 l_2 : Int) (l_3 : List Ent) (b : List Int) (vat : Int) : Option R :=
 bi (decide (0 ≤ vat ∧ vat < ((b.length : Nat) : Int))) (bi ((b.getD vat.toNat 0) == 63) (l_q1r b (IntKind.i64.wrap (vat + 1)) true (fun r1 r2 r3 => bi (r2 == 0) (l_q1n b r1 (ByteArray.mk #[32, 61]) (fun r4 r5 => bi (r5 == 0) (l_q1r b r4 false (fun r6 r7 r8 => bi (r7 == 0) (l_q1n b r6 (ByteArray.mk #[10]) (fun r9 r10 =>
 K0 1 l l_1 l_2 0 1 r9 r10 r3 ([] : List Int) ([] : List Int) r8 ([] : List Int))) (K0 1 l l_1 l_2 0 1 r6 r7 r3 ([] : List Int) ([] : List Int) r8 ([] : List Int)))) (bi (r5 == 0) (l_q1n b r4 (ByteArray.mk #[10]) (fun r11 r12 => K0 1 l l_1 l_2 0 1 r11 r12 r3 ([] : List Int) ([] : List Int) ([] : List Int) ([] : List Int)))
 (K0 1 l l_1 l_2 0 1 r4 r5 r3 ([] : List Int) ([] : List Int) ([] : List Int) ([] : List Int))))) (bi (r2 == 0) (l_q1r b r1 false (fun r13 r14 r15 => bi (r14 == 0) (l_q1n b r13 (ByteArray.mk #[10]) (fun r16 r17 => K0 1 l l_1 l_2 0 1 r16 r17 r3 ([] : List Int) ([] : List Int) r15 ([] : List Int)))
 (K0 1 l l_1 l_2 0 1 r13 r14 r3 ([] : List Int) ([] : List Int) r15 ([] : List Int)))) (bi (r2 == 0) (l_q1n b r1 (ByteArray.mk #[10]) (fun r18 r19 => K0 1 l l_1 l_2 0 1 r18 r19 r3 ([] : List Int) ([] : List Int) ([] : List Int) ([] : List Int))) (K0 1 l l_1 l_2 0 1 r1 r2 r3 ([] : List Int) ([] : List Int) ([] : List Int) ([] : List Int))))))
 (l_q1n b vat (ByteArray.mk #[33, 10]) (fun r20 r21 => bi (r21 != 0) (K0 0 0 0 0 0 0 r20 r21 ([] : List Int) ([] : List Int) ([] : List Int) ([] : List Int) ([] : List Int)) (g47_18 b r20 r20 0 0 0 0 0 0 ([] : List Int) ([] : List Int) ([] : List Int) ([] : List Int) ([] : List Int) 0 0 0 0 0 0 ([] : List Int) ([] : List Int) ([] : List Int) ([] : List Int) ([] : List Int))))) none

def e_q1v {R : Type} := @ge_q1v @l_q1n @l_q1r @l_q1u R

def run_q1v {R : Type} (K0 : KT0_q1v R) : Nat -> GT_q1v_18 R
 |0 => fun _ _ _ _ _ _ _ _ _ _ _ _ _ _ _ _ _ _ _ _ _ _ _ _ _ => none
 |n + 1 => s_q1v_18 (run_q1v K0 n) K0

def l_q1v {R : Type} (l l_1 l_2 : Int) (l_3 : List Ent) (b : List Int) (vat : Int) (K0 : KT0_q1v R) : Option R := evl fun fuel => e_q1v (run_q1v K0 fuel) K0 l l_1 l_2 l_3 b vat

section rentry
variable {R : Type} {b : List Int} {K0 : Int -> Int -> Int -> Int -> Int -> Int -> Int -> Int -> List Int -> List Int -> List Int -> List Int -> List Int -> Option R} {B : Int -> Int -> Option R}

theorem take_one {b : List Int} {c : Nat} {x : Int} : (b.drop c).take 1 = [x] ↔ b[c]? = some x := by
 have e : b[c]? = (b.drop c)[0]? := by rw [List.getElem?_drop, Nat.add_zero]
 rw [e]
 cases b.drop c with
 |nil => simp
 |cons y r => simp

/-- What the document says of an asked word. -/
def raskV (K0 : Int -> Int -> Int -> Int -> Int -> Int -> Int -> Int -> List Int -> List Int -> List Int -> List Int -> List Int -> Option R) (B : Int -> Int -> Option R) (k K O : Int) (b : List Int) (a : Nat) : Option R :=
 match memE b (.inr (a + 1)) with
 |.inl f => B f.2 f.1
 |.inr c => K0 1 k K O 0 1 (c : Int) 0 (roV (memW b (.inr (a + 1)))) [] [] (roV (memO b (.inr (a + 1)))) []

/-- What the document says of a hypothesis. -/
def rhypV (K0 : Int -> Int -> Int -> Int -> Int -> Int -> Int -> Int -> List Int -> List Int -> List Int -> List Int -> List Int -> Option R) (B : Int -> Int -> Option R) (b : List Int) (d : Nat) : Option R :=
 if hypEnd b d < 0 ∨ (hypImp b d).e ≠ 0 then B (stA (hypM b d)) (stE (hypM b d))
 else match hypZ b d with
  |.inl f => B f.2 f.1
  |.inr c => K0 2 (hypImp b d).k (hypImp b d).K (hypImp b d).O (hypImp b d).N (if hypY b d = true then 2 else 3) (c : Int) 0 [] (hypImp b d).nx (hypImp b d).ou [] (if hypY b d = true then [] else roV (hypN b d))

theorem rent_n (hs : b.length ≤ 17000000) (hK : ∀ q k K O N a p e : Int, ∀ w nx ou o v : List Int, e ≠ 0 -> K0 q k K O N a p e w nx ou o v = B p e) (k K O N : Int) (nx ou : List Int) {c : Nat} (hc : c ≤ b.length) :
  l_q1n b (c : Int) (ByteArray.mk #[110]) (fun r34 r35 => bi (r35 == 0) (l_q1r b r34 false (fun r36 r37 r38 => bi (r37 == 0) (l_q1n b r36 (ByteArray.mk #[10]) (fun r39 r40 => K0 2 k K O N 3 r39 r40 [] nx ou [] r38)) (K0 2 k K O N 3 r36 r37 [] nx ou [] r38)))
   (bi (r35 == 0) (l_q1n b r34 (ByteArray.mk #[10]) (fun r41 r42 => K0 2 k K O N 3 r41 r42 [] nx ou [] [])) (K0 2 k K O N 3 r34 r35 [] nx ou [] []))) =
  match wnt [10] b (roR (rowR true b (wnt [110] b (.inr c)))) with
  |.inl f => B f.2 f.1
  |.inr z => K0 2 k K O N 3 (z : Int) 0 [] nx ou [] (roV (rowR true b (wnt [110] b (.inr c)))) := by
 have hsh : short b := by unfold short; omega
 rw [rw27_eq hsh (by decide) hc, show bts (ByteArray.mk #[110]) = [110] from rfl]
 try dsimp only
 have ok1 := wantS_st (b := b) [110] c hc
 show _ = match wnt [10] b (roR (rowR true b (wantS [110] b c))) with
  |.inl f => B f.2 f.1
  |.inr z => K0 2 k K O N 3 (z : Int) 0 [] nx ou [] (roV (rowR true b (wantS [110] b c)))
 cases h1 : wantS [110] b c with
 |inl f =>
  rw [h1] at ok1
  have hf : f.1 ≠ 0 := ok1
  rw [br_eq' (show stE (.inl f : Rd Nat) ≠ 0 from hf), br_eq' (show stE (.inl f : Rd Nat) ≠ 0 from hf)]
  exact hK _ _ _ _ _ _ _ _ _ _ _ _ _ hf
 |inr c1 =>
  rw [h1] at ok1
  have hc1 : c1 ≤ b.length := ok1
  show bi ((0 : Int) == 0) (l_q1r b (c1 : Int) false _) _ = _
  rw [br_eq rfl, rrow_eq hs false hc1, show (!false) = true from rfl]
  try dsimp only
  have ok2 : okR b (roR (rowR true b (.inr c1))) := row_ok (r := .inr c1) hc1
  cases h2 : rowR true b (.inr c1) with
  |inl f =>
   rw [h2] at ok2
   have hf : f.1 ≠ 0 := ok2
   rw [br_eq' (show stE (roR (.inl f : Rd (Nat × List Int))) ≠ 0 from hf)]
   exact hK _ _ _ _ _ _ _ _ _ _ _ _ _ hf
  |inr q =>
   rw [h2] at ok2
   have hq : q.1 ≤ b.length := ok2
   show bi ((0 : Int) == 0) (l_q1n b (q.1 : Int) _ _) _ = _
   rw [br_eq rfl, rw27_eq hsh (by decide) hq, show bts (ByteArray.mk #[10]) = [10] from rfl]
   try dsimp only
   have ok3 := wantS_st (b := b) [10] q.1 hq
   show _ = match wantS [10] b q.1 with
    |.inl f => B f.2 f.1
    |.inr z => K0 2 k K O N 3 (z : Int) 0 [] nx ou [] q.2
   cases h3 : wantS [10] b q.1 with
   |inl f =>
    rw [h3] at ok3
    exact hK _ _ _ _ _ _ _ _ _ _ _ _ _ ok3
   |inr z => rfl

theorem rent_go (hs : b.length ≤ 16777216) (hb : isB8 b) (hK : ∀ q k K O N a p e : Int, ∀ w nx ou o v : List Int, e ≠ 0 -> K0 q k K O N a p e w nx ou o v = B p e) {d : Nat} (hd1 : 1 ≤ d) (hdb : d ≤ b.length) :
  ∀ (n i : Nat), i + n = b.length -> d ≤ i -> seekE b n i = seekE b (b.length - d) d -> Reach (fun m => run_q1v K0 m b (d : Int) (i : Int) 0 0 0 0 0 0 [] [] [] [] [] 0 0 0 0 0 0 [] [] [] [] []) (rhypV K0 B b d)
 |0, i, hi, hdi, hsk => by
  refine .now fun m => ?_
  rw [show run_q1v K0 (m + 1) = s_q1v_18 (run_q1v K0 m) K0 from rfl]
  have hneg := (hypEnd_seek hb hd1 hdb).1 (by rw [← hsk]; show i = _; omega)
  unfold s_q1v_18 gs_q1v_18 rhypV
  rw [br_neg (by omega), br_eq (by omega), hK _ _ _ _ _ _ _ _ _ _ _ _ _ (by decide), if_pos (.inl hneg)]
  unfold hypM
  rw [if_pos hneg, show i = b.length by omega]
  rfl
 |n + 1, i, hi, hdi, hsk => by
  have hil : i < b.length := by omega
  have start : ∀ m, run_q1v K0 (m + 1) b (d : Int) (i : Int) 0 0 0 0 0 0 [] [] [] [] [] 0 0 0 0 0 0 [] [] [] [] [] = s_q1v_18 (run_q1v K0 m) K0 b (d : Int) (i : Int) 0 0 0 0 0 0 [] [] [] [] [] 0 0 0 0 0 0 [] [] [] [] [] := fun m => rfl
  by_cases c : isEnd b i
  ·have hsh : short b := by unfold short; omega
   have hs2 : b.length ≤ 17000000 := by omega
   have hse : seekE b (n + 1) i = i := by
    unfold seekE
    rw [if_pos c]
   have hE := (hypEnd_seek hb hd1 hdb).2 (by rw [← hsk, hse]; exact hil)
   rw [← hsk, hse] at hE
   have c1 := (List.getElem?_eq_some_iff.1 c.1).2
   obtain ⟨hl2, c2⟩ := List.getElem?_eq_some_iff.1 c.2
   refine .now fun m => ?_
   rw [start]
   have hx : (b.drop d).take (i - d) = (b.drop d).take (hypEnd b d).toNat := by rw [hE]; congr 1; omega
   unfold s_q1v_18 gs_q1v_18 rhypV
   rw [br_pos (by omega), br_pos (by omega), Int.toNat_natCast, Int.toNat_natCast, getD_of 0 hil, br_eq c1, wr ((i : Int) - 1) (by omega) (by omega), br_pos (by omega), show ((i : Int) - 1).toNat = i - 1 by omega, getD_of 0 hl2, c2, show (!((10 : Int) == 10)) = false from rfl, br_ff, br_eq' (by omega), br_pos (by omega), rimport_eq, hx]
   show bi ((hypImp b d).e != 0) _ _ = _
   by_cases he : (hypImp b d).e = 0
   ·rw [br_ne' he, if_neg (fun q => q.elim (fun z => by omega) (fun z => z he))]
    have hp : (hypImp b d).p = (((b.drop d).take (hypEnd b d).toNat).length : Int) := impS_place _ he
    rw [← hx, List.length_take, List.length_drop] at hp
    have hM : hypM b d = .inr i := by
     unfold hypM
     rw [if_neg (by omega), if_neg (by simpa using he)]
     congr 1
     omega
    have hil' : i ≤ b.length := by omega
    rw [rw27_eq hsh (by decide) hil', show bts (ByteArray.mk #[61, 32]) = [61, 32] from rfl]
    try dsimp only
    have ok1 := wantS_st (b := b) [61, 32] i hil'
    have eW : wnt [61, 32] b (hypM b d) = wantS [61, 32] b i := by rw [hM]; rfl
    unfold hypZ hypN hypY
    rw [eW]
    cases h1 : wantS [61, 32] b i with
    |inl f =>
     rw [h1] at ok1
     have hf : f.1 ≠ 0 := ok1
     rw [br_eq' (show stE (.inl f : Rd Nat) ≠ 0 from hf), br_eq' (show stE (.inl f : Rd Nat) ≠ 0 from hf), br_eq' (show stE (.inl f : Rd Nat) ≠ 0 from hf)]
     exact hK _ _ _ _ _ _ _ _ _ _ _ _ _ hf
    |inr z =>
     rw [h1] at ok1
     have hz : z ≤ b.length := ok1
     show bi ((0 : Int) == 0) (bi (decide ((z : Int) < (b.length : Int))) _ _) _ = _
     have zero : stE (.inr z : Rd Nat) = 0 := rfl
     have zat : stA (.inr z : Rd Nat) = (z : Int) := rfl
     rw [br_eq rfl]
     by_cases hy : b[z]? = some 121
     ·obtain ⟨hzl, hv⟩ := List.getElem?_eq_some_iff.1 hy
      have i1 : isS [121] b (.inr z) = true := decide_eq_true (take_one.2 hy)
      have i2 : isR [121] b (.inr z) = .inr (z + 1) := if_pos (take_one.2 hy)
      have hz1 : z + 1 ≤ b.length := hzl
      rw [br_pos (by omega), zat, zero, br_pos (by omega), Int.toNat_natCast, getD_of 0 hzl, br_eq hv, br_eq rfl, wr ((z : Int) + 1) (by omega) (by omega), show (z : Int) + 1 = ((z + 1 : Nat) : Int) from rfl, rw27_eq hsh (by decide) hz1, show bts (ByteArray.mk #[10]) = [10] from rfl]
      try dsimp only
      simp only [i1, i2, if_true]
      have ok3 := wantS_st (b := b) [10] (z + 1) hz1
      show _ = match wantS [10] b (z + 1) with
       |.inl f => B f.2 f.1
       |.inr c => K0 2 (hypImp b d).k (hypImp b d).K (hypImp b d).O (hypImp b d).N 2 (c : Int) 0 [] (hypImp b d).nx (hypImp b d).ou [] []
      cases h3 : wantS [10] b (z + 1) with
      |inl f =>
       rw [h3] at ok3
       exact hK _ _ _ _ _ _ _ _ _ _ _ _ _ ok3
      |inr y => rfl
     ·have i1 : isS [121] b (.inr z) = false := decide_eq_false fun q => hy (take_one.1 q)
      have i2 : isR [121] b (.inr z) = .inr z := isR_no (by rw [i1]; decide)
      simp only [i1, i2, Bool.false_eq_true, if_false]
      have nn := rent_n hs2 hK (hypImp b d).k (hypImp b d).K (hypImp b d).O (hypImp b d).N (hypImp b d).nx (hypImp b d).ou hz
      by_cases hzl : z < b.length
      ·have hv : b[z] ≠ 121 := fun e => hy (by rw [List.getElem?_eq_getElem hzl, e])
       rw [br_pos (by omega), zat, zero, br_pos (by omega), Int.toNat_natCast, getD_of 0 hzl, br_eq' hv, br_eq rfl]
       exact nn
      ·rw [br_neg (by omega), zat, zero, br_eq rfl]
       exact nn
   ·rw [br_ne he, if_pos (.inr he)]
    refine (hK _ _ _ _ _ _ _ _ _ _ _ _ _ he).trans ?_
    unfold hypM
    rw [if_neg (by omega), if_pos he]
    rfl
  ·refine .step (fun m => ?_) (rent_go hs hb hK hd1 hdb n (i + 1) (by omega) (by omega) (by rw [← hsk]; conv => rhs; unfold seekE; rw [if_neg c]))
   rw [start]
   unfold s_q1v_18 gs_q1v_18
   rw [br_pos (by omega), br_pos (by omega), Int.toNat_natCast, Int.toNat_natCast, getD_of 0 hil, wr ((i : Int) + 1) (by omega) (by omega)]
   by_cases c1 : b[i] = 61
   ·have hl2 : i - 1 < b.length := by omega
    have c2 : b[i - 1] ≠ 10 := fun e => c ⟨by rw [List.getElem?_eq_getElem hil, c1], by rw [List.getElem?_eq_getElem hl2, e]⟩
    rw [br_eq c1, wr ((i : Int) - 1) (by omega) (by omega), br_pos (by omega), show ((i : Int) - 1).toNat = i - 1 by omega, getD_of 0 hl2, show (b[i - 1] == 10) = false from beq_eq_false_iff_ne.2 c2]
    rfl
   ·rw [br_eq' c1]
    rfl

/-- What the document says of an entry. -/
theorem rentry_eq (hs : b.length ≤ 16777216) (hb : isB8 b) (hK : ∀ q k K O N a p e : Int, ∀ w nx ou o v : List Int, e ≠ 0 -> K0 q k K O N a p e w nx ou o v = B p e) {k K O : Int} {l : List Ent} {a : Nat} (ha : a < b.length) :
  l_q1v k K O l b (a : Int) K0 = if isS [63] b (.inr a) = true then raskV K0 B k K O b a else match wnt [33, 10] b (.inr a) with
   |.inl f => B f.2 f.1
   |.inr d => rhypV K0 B b d := by
 have hsh : short b := by unfold short; omega
 have hs2 : b.length ≤ 17000000 := by omega
 by_cases c : b[a]? = some 63
 ·have i1 : isS [63] b (.inr a) = true := decide_eq_true (take_one.2 c)
  obtain ⟨_, hv⟩ := List.getElem?_eq_some_iff.1 c
  have ha1 : a + 1 ≤ b.length := ha
  rw [if_pos i1]
  refine evl_eq (.now fun m => ?_)
  unfold e_q1v ge_q1v raskV memE memO memW
  rw [br_pos (by omega), Int.toNat_natCast, getD_of 0 ha, br_eq hv, wr ((a : Int) + 1) (by omega) (by omega), show (a : Int) + 1 = ((a + 1 : Nat) : Int) from rfl, rrow_eq hs2 true ha1]
  try dsimp only
  rw [show (!true) = false from rfl]
  have ok1 : okR b (roR (rowR false b (.inr (a + 1)))) := row_ok (r := .inr (a + 1)) ha1
  cases h1 : rowR false b (.inr (a + 1)) with
  |inl f =>
   rw [h1] at ok1
   have hf : f.1 ≠ 0 := ok1
   rw [br_eq' (show stE (roR (.inl f : Rd (Nat × List Int))) ≠ 0 from hf), br_eq' (show stE (roR (.inl f : Rd (Nat × List Int))) ≠ 0 from hf), br_eq' (show stE (roR (.inl f : Rd (Nat × List Int))) ≠ 0 from hf)]
   exact hK _ _ _ _ _ _ _ _ _ _ _ _ _ hf
  |inr q =>
   rw [h1] at ok1
   have hq : q.1 ≤ b.length := ok1
   show bi ((0 : Int) == 0) (l_q1n b (q.1 : Int) _ _) _ = _
   rw [br_eq rfl, rw27_eq hsh (by decide) hq, show bts (ByteArray.mk #[32, 61]) = [32, 61] from rfl]
   try dsimp only
   have ok2 := wantS_st (b := b) [32, 61] q.1 hq
   show _ = match wnt [10] b (roR (rowR true b (wantS [32, 61] b q.1))) with
    |.inl f => B f.2 f.1
    |.inr c => K0 1 k K O 0 1 (c : Int) 0 q.2 [] [] (roV (rowR true b (wantS [32, 61] b q.1))) []
   cases h2 : wantS [32, 61] b q.1 with
   |inl f =>
    rw [h2] at ok2
    have hf : f.1 ≠ 0 := ok2
    rw [br_eq' (show stE (.inl f : Rd Nat) ≠ 0 from hf), br_eq' (show stE (.inl f : Rd Nat) ≠ 0 from hf)]
    exact hK _ _ _ _ _ _ _ _ _ _ _ _ _ hf
   |inr z =>
    rw [h2] at ok2
    have hz : z ≤ b.length := ok2
    show bi ((0 : Int) == 0) (l_q1r b (z : Int) false _) _ = _
    rw [br_eq rfl, rrow_eq hs2 false hz, show (!false) = true from rfl]
    try dsimp only
    have ok3 : okR b (roR (rowR true b (.inr z))) := row_ok (r := .inr z) hz
    cases h3 : rowR true b (.inr z) with
    |inl f =>
     rw [h3] at ok3
     have hf : f.1 ≠ 0 := ok3
     rw [br_eq' (show stE (roR (.inl f : Rd (Nat × List Int))) ≠ 0 from hf)]
     exact hK _ _ _ _ _ _ _ _ _ _ _ _ _ hf
    |inr p =>
     rw [h3] at ok3
     have hp : p.1 ≤ b.length := ok3
     show bi ((0 : Int) == 0) (l_q1n b (p.1 : Int) _ _) _ = _
     rw [br_eq rfl, rw27_eq hsh (by decide) hp, show bts (ByteArray.mk #[10]) = [10] from rfl]
     try dsimp only
     have ok4 := wantS_st (b := b) [10] p.1 hp
     show _ = match wantS [10] b p.1 with
      |.inl f => B f.2 f.1
      |.inr c => K0 1 k K O 0 1 (c : Int) 0 q.2 [] [] p.2 []
     cases h4 : wantS [10] b p.1 with
     |inl f =>
      rw [h4] at ok4
      exact hK _ _ _ _ _ _ _ _ _ _ _ _ _ ok4
     |inr y => rfl
 ·have i1 : isS [63] b (.inr a) = false := decide_eq_false fun q => c (take_one.1 q)
  have hv : b[a] ≠ 63 := fun e => c (by rw [List.getElem?_eq_getElem ha, e])
  have ha' : a ≤ b.length := by omega
  rw [if_neg (by rw [i1]; decide)]
  have ok1 := wantS_st (b := b) [33, 10] a ha'
  have key : ∀ m, e_q1v (run_q1v K0 m) K0 k K O l b (a : Int) = bi (stE (wantS [33, 10] b a) != 0) (K0 0 0 0 0 0 0 (stA (wantS [33, 10] b a)) (stE (wantS [33, 10] b a)) [] [] [] [] []) (run_q1v K0 m b (stA (wantS [33, 10] b a)) (stA (wantS [33, 10] b a)) 0 0 0 0 0 0 [] [] [] [] [] 0 0 0 0 0 0 [] [] [] [] []) := fun m => by
   unfold e_q1v ge_q1v
   rw [br_pos (by omega), Int.toNat_natCast, getD_of 0 ha, br_eq' hv, rw27_eq hsh (by decide) ha']
   rfl
  show _ = match wantS [33, 10] b a with
   |.inl f => B f.2 f.1
   |.inr d => rhypV K0 B b d
  cases h1 : wantS [33, 10] b a with
  |inl f =>
   rw [h1] at ok1 key
   have hf : f.1 ≠ 0 := ok1
   refine evl_eq (.now fun m => ?_)
   rw [key]
   show bi (f.1 != 0) _ _ = _
   rw [br_ne hf]
   exact hK _ _ _ _ _ _ _ _ _ _ _ _ _ hf
  |inr d =>
   rw [h1] at ok1 key
   have hd : d ≤ b.length := ok1
   have h2 := (wantS_ok h1).1
   simp only [List.length_cons, List.length_nil] at h2
   refine evl_eq (.same (fun m => ?_) (rent_go hs hb hK (d := d) (by omega) hd (b.length - d) d (by omega) (Nat.le_refl _) rfl))
   rw [key]
   show bi ((0 : Int) != 0) _ _ = _
   rw [br_ne' rfl]
   rfl

end rentry

abbrev LT_q1w := {R : Type} -> (List Int) -> Int -> (Int -> Int -> Option R) -> Option R
abbrev GT_q1w_6 (R : Type) := (List Int) -> Int -> Int -> Option R
def s_q1w_6 {R : Type} (g57_6 : GT_q1w_6 R) (K0 : Int -> Int -> Option R) (w : List Int) (k i : Int) : Option R :=
 bi (decide (i < (w.length : Int))) (bi (decide (0 ≤ i ∧ i < ((w.length : Nat) : Int))) (bi (decide ((w.getD i.toNat 0) < 0)) (K0 i 10) (bi (decide (0 ≤ i ∧ i < ((w.length : Nat) : Int))) (bi (decide ((w.getD i.toNat 0) ≥ k)) (K0 i 10) (g57_6 w k (IntKind.i64.wrap (i + 1)))) none)) none) (K0 0 0)

def e_q1w {R : Type} (g57_6 : GT_q1w_6 R) (K0 : Int -> Int -> Option R) (w : List Int) (k : Int) : Option R :=
 bi (decide (k < 1)) (K0 0 1) (bi (decide (k > 64)) (K0 0 1) (bi (decide ((w.length : Int) > 4096)) (K0 0 2) (g57_6 w k 0)))

def run_q1w {R : Type} (K0 : Int -> Int -> Option R) : Nat -> GT_q1w_6 R
 |0 => fun _ _ _ => none
 |n + 1 => s_q1w_6 (run_q1w K0 n) K0

def l_q1w {R : Type} (w : List Int) (k : Int) (K0 : Int -> Int -> Option R) : Option R := K0 (wordS k w).1 (wordS k w).2

theorem ok_q1w {R : Type} (w : List Int) (k : Int) (K0 : Int -> Int -> Option R) {r : R} (h : l_q1w w k K0 = some r) : ∃ fuel, e_q1w (run_q1w K0 fuel) K0 w k = some r := by
 refine ⟨w.length + 1, ?_⟩
 rw [← h]
 unfold l_q1w e_q1w wordS
 by_cases h1 : k < 1
 ·rw [br_pos h1, if_pos (by omega)]
 rw [br_neg h1]
 by_cases h2 : k > 64
 ·rw [br_pos h2, if_pos (by omega)]
 rw [br_neg h2, if_neg (by omega)]
 by_cases h3 : w.length > 4096
 ·rw [br_pos (by omega), if_pos h3]
 rw [br_neg (by omega), if_neg h3]
 have key := scan_all (F := fun m i => run_q1w K0 m w k (i : Int)) (outside k) (l := w) (A := fun i => K0 i 10) (B := K0 0 0)
  (fun m => by
   show s_q1w_6 _ _ _ _ _ = _
   unfold s_q1w_6
   rw [br_neg (by omega)])
  (fun m i hi => by
   show s_q1w_6 _ _ _ _ _ = _
   unfold s_q1w_6
   rw [br_pos (by omega), br_pos (by omega), br_pos (p := 0 ≤ (i : Int) ∧ (i : Int) < ((w.length : Nat) : Int)) (by omega), Int.toNat_natCast, getD_of 0 hi, wr _ (by omega) (by omega)]
   unfold outside
   cases decide (w[i] < 0) <;> cases decide (w[i] ≥ k) <;> rfl)
 refine key.trans ?_
 cases findP (outside k) w <;> rfl

abbrev LT_q1x := {R : Type} -> Int -> (List Int) -> Int -> Int -> Int -> Int -> (List Int) -> (List Int) -> Int -> (List Int) -> (List Int) -> (Int -> Option R) -> Option R
abbrev GT_q1x_14 (R : Type) := Int -> Int -> Int -> (List Int) -> (List Int) -> Option R
abbrev gs_q1x_14 (l_q1w : LT_q1w) {R : Type} (g58_14 : GT_q1x_14 R) (K0 : Int -> Option R) (most i o0 : Int) (o0_1 o0_2 : List Int) : Option R :=
 bi (decide (i < (o0_1.length : Int))) (bi (decide (0 ≤ i ∧ i < ((o0_1.length : Nat) : Int))) (bi (decide ((o0_1.getD i.toNat 0) < 0)) (K0 100) (bi (decide (0 ≤ i ∧ i < ((o0_1.length : Nat) : Int))) (bi (decide ((o0_1.getD i.toNat 0) ≥ most)) (K0 100) (g58_14 most (IntKind.i64.wrap (i + 1)) o0 o0_1 o0_2)) none)) none) (K0 0)

def s_q1x_14 {R : Type} := @gs_q1x_14 @l_q1w R

abbrev ge_q1x (l_q1w : LT_q1w) {R : Type} (g58_14 : GT_q1x_14 R) (K0 : Int -> Option R) (q : Int) (q_1 : List Int) (q_2 q_3 q_4 q_5 : Int) (q_6 q_7 : List Int) (a : Int) (a_1 a_2 : List Int) : Option R :=
 bi (q != 1) (bi (q != 2) (K0 30) (bi (q == 2) (l_q1w a_2 q_3 (fun r1 r2 => bi ((a_1.length : Int) == 0) (bi (a == 2) (bi ((a_2.length : Int) == 0) (K0 0) (bi (a == 3) (bi (r2 == 0) (K0 0) (K0 100)) (K0 100))) (bi (a == 3) (bi (r2 == 0) (K0 0) (K0 100)) (K0 100))) (K0 100))) (bi (q_2 == 1) (bi (a != 1) (K0 100) (bi (decide ((a_2.length : Int) > 0)) (K0 100) (bi (q_2 != 1)
 (bi (q_2 != 2) (K0 100) (bi ((a_1.length : Int) != 1) (K0 100) (g58_14 2 0 a a_1 a_2))) (bi ((a_1.length : Int) != 1) (K0 100) (g58_14 2 0 a a_1 a_2))))) (bi (a != 1) (K0 100) (bi (decide ((a_2.length : Int) > 0)) (K0 100) (bi (q_2 != 1) (bi (q_2 != 2) (K0 100) (bi ((a_1.length : Int) != (q_1.length : Int)) (K0 100) (g58_14 q_4 0 a a_1 a_2))) (bi ((a_1.length : Int) != (q_1.length : Int)) (K0 100)
 (g58_14 q_4 0 a a_1 a_2)))))))) (bi (q == 2) (l_q1w a_2 q_3 (fun r3 r4 => bi ((a_1.length : Int) == 0) (bi (a == 2) (bi ((a_2.length : Int) == 0) (K0 0) (bi (a == 3) (bi (r4 == 0) (K0 0) (K0 100)) (K0 100))) (bi (a == 3) (bi (r4 == 0) (K0 0) (K0 100)) (K0 100))) (K0 100))) (bi (q_2 == 1) (bi (a != 1) (K0 100) (bi (decide ((a_2.length : Int) > 0)) (K0 100) (bi (q_2 != 1) (bi (q_2 != 2)
 (K0 100) (bi ((a_1.length : Int) != 1) (K0 100) (g58_14 2 0 a a_1 a_2))) (bi ((a_1.length : Int) != 1) (K0 100) (g58_14 2 0 a a_1 a_2))))) (bi (a != 1) (K0 100) (bi (decide ((a_2.length : Int) > 0)) (K0 100) (bi (q_2 != 1) (bi (q_2 != 2) (K0 100) (bi ((a_1.length : Int) != (q_1.length : Int)) (K0 100) (g58_14 q_4 0 a a_1 a_2))) (bi ((a_1.length : Int) != (q_1.length : Int)) (K0 100)
 (g58_14 q_4 0 a a_1 a_2)))))))

def e_q1x {R : Type} := @ge_q1x @l_q1w R

def run_q1x {R : Type} (K0 : Int -> Option R) : Nat -> GT_q1x_14 R
 |0 => fun _ _ _ _ _ => none
 |n + 1 => s_q1x_14 (run_q1x K0 n) K0

def l_q1x {R : Type} (q : Int) (q_1 : List Int) (q_2 : Int) (q_3 : Int) (q_4 : Int) (q_5 : Int) (q_6 : List Int) (q_7 : List Int) (a : Int) (a_1 : List Int) (a_2 : List Int) (K0 : Int -> Option R) : Option R :=
 bi (decide (short a_1)) (K0 (teachC q q_1 q_2 q_3 q_4 a a_1 a_2)) none

theorem tcLoop {R : Type} {a1 : List Int} (hs : short a1) (K0 : Int -> Option R) (most a : Int) (a2 : List Int) : run_q1x K0 (a1.length + 1) most 0 a a1 a2 = K0 (if allIn most a1 then 0 else 100) := by
 have hs : a1.length < 4611686018427387904 := hs
 refine (scan_all (F := fun m i => run_q1x K0 m most (i : Int) a a1 a2) (outside most) (l := a1) (A := fun i => K0 100) (B := K0 0)
   (fun m => by
    dsimp only [run_q1x]
    unfold s_q1x_14 gs_q1x_14
    rw [br_neg (by omega)])
   (fun m i hi => by
    dsimp only [run_q1x]
    unfold s_q1x_14 gs_q1x_14
    rw [br_pos (by omega), br_pos (by omega), br_pos (p := 0 ≤ (i : Int) ∧ (i : Int) < ((a1.length : Nat) : Int)) (by omega), Int.toNat_natCast, getD_of 0 hi, wr _ (by omega) (by omega)]
    unfold outside
    cases decide (a1[i] < 0) <;> cases decide (a1[i] ≥ most) <;> rfl)).trans ?_
 by_cases hf : allIn most a1
 ·rw [if_pos hf, show findP (outside most) a1 = none from hf]
 ·rw [if_neg hf]
  obtain ⟨i, hi⟩ := Option.ne_none_iff_exists'.1 hf
  rw [hi]

theorem ok_q1x {R : Type} (q : Int) (q_1 : List Int) (q_2 : Int) (q_3 : Int) (q_4 : Int) (q_5 : Int) (q_6 : List Int) (q_7 : List Int) (a : Int) (a_1 : List Int) (a_2 : List Int) (K0 : Int -> Option R) {r : R} (h : l_q1x q q_1 q_2 q_3 q_4 q_5 q_6 q_7 a a_1 a_2 K0 = some r) :
  ∃ fuel, e_q1x (run_q1x K0 fuel) K0 q q_1 q_2 q_3 q_4 q_5 q_6 q_7 a a_1 a_2 = some r := by
 unfold l_q1x at h
 rcases bi_some h with ⟨hs, h⟩ | ⟨_, h⟩
 ·have hs : short a_1 := of_decide_eq_true hs
  refine ⟨a_1.length + 1, ?_⟩
  rw [← h]
  unfold e_q1x ge_q1x l_q1w teachC
  simp only [tcLoop hs]
  simp only [br_if, bne_iff_ne, beq_iff_eq, decide_eq_true_eq, ne_eq]
  generalize (wordS q_3 a_2).2 = c
  have e1 : ((a_1.length : Int) = 0) = (a_1.length = 0) := propext (by omega)
  have e2 : ((a_2.length : Int) = 0) = (a_2.length = 0) := propext (by omega)
  have e3 : ((a_2.length : Int) > 0) = ¬ (a_2.length = 0) := propext (by omega)
  have e4 : ((a_1.length : Int) = 1) = (a_1.length = 1) := propext (by omega)
  have e5 : ((a_1.length : Int) = (q_1.length : Int)) = (a_1.length = q_1.length) := propext (by omega)
  simp only [e1, e2, e3, e4, e5]
  by_cases h1 : q = 1
  ·subst h1
   by_cases h2 : a = 1 <;> by_cases h3 : a_2.length = 0 <;> by_cases h4 : q_2 = 1 <;> by_cases h5 : q_2 = 2 <;> by_cases h6 : a_1.length = 1 <;> by_cases h7 : a_1.length = q_1.length <;> simp_all
  ·by_cases h2 : q = 2
   ·subst h2
    by_cases h2 : a_1.length = 0 <;> by_cases h3 : a_2.length = 0 <;> by_cases h4 : a = 2 <;> by_cases h5 : a = 3 <;> by_cases h6 : c = 0 <;> simp_all
   ·simp_all
 ·cases h

theorem rcheck_eq {R : Type} {q : Int} {q_1 : List Int} {q_2 q_3 q_4 q_5 : Int} {q_6 q_7 : List Int} {a : Int} {a_1 a_2 : List Int} (h : short a_1) (K0 : Int -> Option R) :
  l_q1x q q_1 q_2 q_3 q_4 q_5 q_6 q_7 a a_1 a_2 K0 = K0 (teachC q q_1 q_2 q_3 q_4 a a_1 a_2) := by
 unfold l_q1x
 rw [br_pos h]

abbrev LT_q1y := {R : Type} -> Int -> Int -> Int -> Int -> (List Int) -> (List Int) -> (Int -> Int -> Option R) -> Option R
abbrev GT_q1y_15 (R : Type) := Int -> Int -> Int -> Int -> Int -> (List Int) -> (List Int) -> Option R
abbrev GT_q1y_20 (R : Type) := Int -> Int -> Int -> Int -> Int -> (List Int) -> (List Int) -> Option R
def s_q1y_15 {R : Type} (g50_15 : GT_q1y_15 R) (g50_20 : GT_q1y_20 R) (K0 : Int -> Int -> Option R) (i o0 o0_1 o0_2 o0_3 : Int) (o0_4 o0_5 : List Int) : Option R :=
 bi (decide (i < (o0_4.length : Int))) (bi (decide (0 ≤ i ∧ i < ((o0_4.length : Nat) : Int))) (bi (decide ((o0_4.getD i.toNat 0) < 0)) (K0 i 32) (bi (decide (0 ≤ i ∧ i < ((o0_4.length : Nat) : Int))) (bi (decide ((o0_4.getD i.toNat 0) ≥ o0_3)) (K0 i 32) (g50_15 (IntKind.i64.wrap (i + 1)) o0 o0_1 o0_2 o0_3 o0_4 o0_5)) none)) none) (g50_20 0 o0 o0_1 o0_2 o0_3 o0_4 o0_5)

def s_q1y_20 {R : Type} (g50_15 : GT_q1y_15 R) (g50_20 : GT_q1y_20 R) (K0 : Int -> Int -> Option R) (i o0 o0_1 o0_2 o0_3 : Int) (o0_4 o0_5 : List Int) : Option R :=
 bi (decide (i < (o0_5.length : Int))) (bi (decide (0 ≤ i ∧ i < ((o0_5.length : Nat) : Int))) (bi (decide ((o0_5.getD i.toNat 0) < 0)) (K0 i 33) (bi (decide (0 ≤ i ∧ i < ((o0_5.length : Nat) : Int))) (bi (decide ((o0_5.getD i.toNat 0) ≥ o0_2)) (K0 i 33) (g50_20 (IntKind.i64.wrap (i + 1)) o0 o0_1 o0_2 o0_3 o0_4 o0_5)) none)) none) (K0 0 0)

def e_q1y {R : Type} (g50_15 : GT_q1y_15 R) (g50_20 : GT_q1y_20 R) (K0 : Int -> Int -> Option R) (m m_1 m_2 m_3 : Int) (m_4 m_5 : List Int) : Option R :=
 bi (m != 1) (bi (m != 2) (K0 0 30) (bi (decide (m_1 < 1)) (K0 0 1) (bi (decide (m_1 > 64)) (K0 0 1) (bi (m == 1) (bi (m_2 != 2) (K0 0 33) (bi (decide (m_2 < 1)) (K0 0 33) (bi (decide (m_2 > 64)) (K0 0 33) (bi (decide (m_3 < 1)) (K0 0 3) (bi (decide (m_3 > 1024)) (K0 0 3) (bi (m == 2) (bi ((m_4.length : Int) != (IntKind.i64.wrap (m_3 * m_1))) (K0 0 31)
 (bi ((m_5.length : Int) != (IntKind.i64.wrap (m_3 * m_1))) (K0 0 31) (g50_15 0 m m_1 m_2 m_3 m_4 m_5))) (bi ((m_4.length : Int) != (IntKind.i64.wrap (m_3 * m_1))) (K0 0 31) (bi ((m_5.length : Int) != m_3) (K0 0 31) (g50_15 0 m m_1 m_2 m_3 m_4 m_5))))))))) (bi (decide (m_2 < 1)) (K0 0 33) (bi (decide (m_2 > 64)) (K0 0 33) (bi (decide (m_3 < 1)) (K0 0 3) (bi (decide (m_3 > 1024)) (K0 0 3)
 (bi (m == 2) (bi ((m_4.length : Int) != (IntKind.i64.wrap (m_3 * m_1))) (K0 0 31) (bi ((m_5.length : Int) != (IntKind.i64.wrap (m_3 * m_1))) (K0 0 31) (g50_15 0 m m_1 m_2 m_3 m_4 m_5))) (bi ((m_4.length : Int) != (IntKind.i64.wrap (m_3 * m_1))) (K0 0 31) (bi ((m_5.length : Int) != m_3) (K0 0 31) (g50_15 0 m m_1 m_2 m_3 m_4 m_5)))))))))))) (bi (decide (m_1 < 1)) (K0 0 1) (bi (decide (m_1 > 64))
 (K0 0 1) (bi (m == 1) (bi (m_2 != 2) (K0 0 33) (bi (decide (m_2 < 1)) (K0 0 33) (bi (decide (m_2 > 64)) (K0 0 33) (bi (decide (m_3 < 1)) (K0 0 3) (bi (decide (m_3 > 1024)) (K0 0 3) (bi (m == 2) (bi ((m_4.length : Int) != (IntKind.i64.wrap (m_3 * m_1))) (K0 0 31) (bi ((m_5.length : Int) != (IntKind.i64.wrap (m_3 * m_1))) (K0 0 31) (g50_15 0 m m_1 m_2 m_3 m_4 m_5)))
 (bi ((m_4.length : Int) != (IntKind.i64.wrap (m_3 * m_1))) (K0 0 31) (bi ((m_5.length : Int) != m_3) (K0 0 31) (g50_15 0 m m_1 m_2 m_3 m_4 m_5))))))))) (bi (decide (m_2 < 1)) (K0 0 33) (bi (decide (m_2 > 64)) (K0 0 33) (bi (decide (m_3 < 1)) (K0 0 3) (bi (decide (m_3 > 1024)) (K0 0 3) (bi (m == 2) (bi ((m_4.length : Int) != (IntKind.i64.wrap (m_3 * m_1))) (K0 0 31)
 (bi ((m_5.length : Int) != (IntKind.i64.wrap (m_3 * m_1))) (K0 0 31) (g50_15 0 m m_1 m_2 m_3 m_4 m_5))) (bi ((m_4.length : Int) != (IntKind.i64.wrap (m_3 * m_1))) (K0 0 31) (bi ((m_5.length : Int) != m_3) (K0 0 31) (g50_15 0 m m_1 m_2 m_3 m_4 m_5)))))))))))

def run_q1y {R : Type} (K0 : Int -> Int -> Option R) : Nat -> (GT_q1y_15 R) × (GT_q1y_20 R)
 |0 => (fun _ _ _ _ _ _ _ => none, fun _ _ _ _ _ _ _ => none)
 |n + 1 => (fun r => (s_q1y_15 r.1 r.2 K0, s_q1y_20 r.1 r.2 K0)) (run_q1y K0 n)

def l_q1y {R : Type} (k K O N : Int) (nx ou : List Int) (K0 : Int -> Int -> Option R) : Option R :=
 bi (decide (short nx ∧ short ou)) (K0 (checkR k K O N nx ou).1 (checkR k K O N nx ou).2) none

theorem checkR_head {R : Type} (g1 g2 : Int -> Int -> Int -> Int -> Int -> List Int -> List Int -> Option R) (K0 : Int -> Int -> Option R) (k K O N : Int) (nx ou : List Int) :
  e_q1y g1 g2 K0 k K O N nx ou = if headS k K O N nx ou = 0 then g1 0 k K O N nx ou else K0 0 (headS k K O N nx ou) := by
 have L0 : headS k K O N nx ou = 0 -> g1 0 k K O N nx ou = if headS k K O N nx ou = 0 then g1 0 k K O N nx ou else K0 0 (headS k K O N nx ou) := fun h => by rw [if_pos h]
 have LK : ∀ c, headS k K O N nx ou = c -> c ≠ 0 -> K0 0 c = if headS k K O N nx ou = 0 then g1 0 k K O N nx ou else K0 0 (headS k K O N nx ou) := fun c h h0 => by rw [h, if_neg h0]
 unfold e_q1y
 simp only [br_if, bne_iff_ne, beq_iff_eq, decide_eq_true_eq, ne_eq]
 by_cases hb : (1 ≤ N ∧ N ≤ 1024) ∧ 1 ≤ K ∧ K ≤ 64
 ·have := mulK hb
  rw [wr (N * K) (by omega) (by omega)]
  repeat' (refine ite_l (fun _ => ?_) (fun _ => ?_))
  all_goals first
   |exact LK _ (by unfold headS; repeat' (refine ite_l (fun _ => ?_) (fun _ => ?_)); all_goals omega) (by omega)
   |exact L0 (by unfold headS; repeat' (refine ite_l (fun _ => ?_) (fun _ => ?_)); all_goals omega)
 ·repeat' (refine ite_l (fun _ => ?_) (fun _ => ?_))
  all_goals first
   |exact LK _ (by unfold headS; repeat' (refine ite_l (fun _ => ?_) (fun _ => ?_)); all_goals omega) (by omega)
   |exact L0 (by unfold headS; repeat' (refine ite_l (fun _ => ?_) (fun _ => ?_)); all_goals omega)

theorem ok_q1y {R : Type} (k K O N : Int) (nx ou : List Int) (K0 : Int -> Int -> Option R) {r : R} (h : l_q1y k K O N nx ou K0 = some r) :
  ∃ fuel, e_q1y (run_q1y K0 fuel).1 (run_q1y K0 fuel).2 K0 k K O N nx ou = some r := by
 unfold l_q1y at h
 rcases bi_some h with ⟨hs, h⟩ | ⟨_, h⟩
 ·obtain ⟨h1, h2⟩ : nx.length < 4611686018427387904 ∧ ou.length < 4611686018427387904 := of_decide_eq_true hs
  refine ⟨ou.length + 1 + (nx.length + 1), ?_⟩
  rw [← h, checkR_head]
  unfold checkR
  by_cases hh : headS k K O N nx ou = 0
  ·rw [if_pos hh, if_neg (by simpa using hh)]
   have key2 : ∀ n, (run_q1y K0 (n + (ou.length + 1))).2 0 k K O N nx ou = match findP (outside O) ou with | some i => K0 (i : Int) 33 | none => K0 0 0 := fun n =>
    scan_all (F := fun m i => (run_q1y K0 (n + m)).2 (i : Int) k K O N nx ou) (outside O) (l := ou) (A := fun i => K0 i 33) (B := K0 0 0)
     (fun m => by
      show s_q1y_20 (run_q1y K0 (n + m)).1 (run_q1y K0 (n + m)).2 K0 _ _ _ _ _ _ _ = _
      unfold s_q1y_20
      rw [br_neg (by omega)])
     (fun m i hi => by
      show s_q1y_20 (run_q1y K0 (n + m)).1 (run_q1y K0 (n + m)).2 K0 _ _ _ _ _ _ _ = _
      unfold s_q1y_20
      rw [br_pos (by omega), br_pos (by omega), br_pos (p := 0 ≤ (i : Int) ∧ (i : Int) < ((ou.length : Nat) : Int)) (by omega), Int.toNat_natCast, getD_of 0 hi, wr _ (by omega) (by omega)]
      unfold outside
      cases decide (ou[i] < 0) <;> cases decide (ou[i] ≥ O) <;> rfl)
   have key1 := scan_all (F := fun m i => (run_q1y K0 (ou.length + 1 + m)).1 (i : Int) k K O N nx ou) (outside N) (l := nx) (A := fun i => K0 i 32)
    (B := match findP (outside O) ou with | some i => K0 (i : Int) 33 | none => K0 0 0)
     (fun m => by
      show s_q1y_15 (run_q1y K0 (ou.length + 1 + m)).1 (run_q1y K0 (ou.length + 1 + m)).2 K0 _ _ _ _ _ _ _ = _
      unfold s_q1y_15
      rw [br_neg (by omega)]
      have := key2 m
      rwa [show m + (ou.length + 1) = ou.length + 1 + m by omega] at this)
     (fun m i hi => by
      show s_q1y_15 (run_q1y K0 (ou.length + 1 + m)).1 (run_q1y K0 (ou.length + 1 + m)).2 K0 _ _ _ _ _ _ _ = _
      unfold s_q1y_15
      rw [br_pos (by omega), br_pos (by omega), br_pos (p := 0 ≤ (i : Int) ∧ (i : Int) < ((nx.length : Nat) : Int)) (by omega), Int.toNat_natCast, getD_of 0 hi, wr _ (by omega) (by omega)]
      unfold outside
      cases decide (nx[i] < 0) <;> cases decide (nx[i] ≥ N) <;> rfl)
   refine key1.trans ?_
   cases findP (outside N) nx with
   |some i => rfl
   |none => cases findP (outside O) ou <;> rfl
  ·rw [if_neg hh, if_pos (by simpa using hh)]
 ·cases h

abbrev LT_q1z := {R : Type} -> Int -> Int -> Int -> (List Ent) -> Int -> Int -> Int -> Int -> (List Int) -> (List Int) -> (Int -> Option R) -> Option R
def l_q1z {R : Type} (l l_1 l_2 : Int) (l_3 : List Ent) (m m_1 m_2 m_3 : Int) (m_4 m_5 : List Int) (K0 : Int -> Option R) : Option R :=
 bi (m != l) (K0 30) (bi (m_1 != l_1) (K0 1) (bi (m_2 != l_2) (K0 33) (K0 0)))

theorem ralike_eq {R : Type} {k K O k' K' O' N' : Int} {l : List Ent} {nx ou : List Int} (K0 : Int -> Option R) :
  l_q1z k K O l k' K' O' N' nx ou K0 = K0 (alikeS k K O k' K' O') := by
 unfold l_q1z alikeS
 by_cases c1 : k' = k
 ·rw [br_ne' c1, if_neg (by simpa using c1)]
  by_cases c2 : K' = K
  ·rw [br_ne' c2, if_neg (by simpa using c2)]
   by_cases c3 : O' = O
   ·rw [br_ne' c3, if_neg (by simpa using c3)]
   ·rw [br_ne c3, if_pos c3]
  ·rw [br_ne c2, if_pos c2]
 ·rw [br_ne c1, if_pos c1]

abbrev LT_q20 := {R : Type} -> Int -> Int -> Int -> (List Ent) -> Int -> (List Int) -> Int -> Int -> Int -> Int -> (List Int) -> (List Int) -> Int -> (List Int) -> (List Int) -> (Int -> Option R) -> Option R
abbrev gl_q20 (l_q1x : LT_q1x) (l_q1w : LT_q1w) (l_q1z : LT_q1z) (l_q1y : LT_q1y) {R : Type} (l l_1 l_2 : Int) (l_3 : List Ent) (x : Int) (x_1 : List Int) (x_2 x_3 x_4 x_5 : Int) (x_6 x_7 : List Int) (x_8 : Int) (x_9 x_10 : List Int) (K0 : Int -> Option R) : Option R :=
 bi (x == 1) (l_q1w x_1 l_1 (fun r1 r2 => bi (r2 != 0) (K0 r2) (l_q1x 1 x_1 l l_1 l_2 0 ([] : List Int) ([] : List Int) x_8 x_9 x_10 (fun r3 => K0 r3)))) (bi (x != 2) (K0 30) (l_q1y x_2 x_3 x_4 x_5 x_6 x_7 (fun r4 r5 => bi (r5 != 0) (K0 r5) (l_q1z l l_1 l_2 l_3 x_2 x_3 x_4 x_5 x_6 x_7 (fun r6 => bi (r6 != 0) (K0 r6)
 (l_q1x 2 ([] : List Int) x_2 x_3 x_4 x_5 x_6 x_7 x_8 x_9 x_10 (fun r7 => K0 r7)))))))

def l_q20 {R : Type} := @gl_q20 @l_q1x @l_q1w @l_q1z @l_q1y R

theorem rfault_eq {R : Type} {k K O : Int} {l : List Ent} {q : Int} {w : List Int} {k' K' O' N' : Int} {nx ou : List Int} {a : Int} {o v : List Int} (h : short o) (o1 : okL nx) (o2 : okL ou) (K0 : Int -> Option R) :
  l_q20 k K O l q w k' K' O' N' nx ou a o v K0 = K0 (entF k K O ((q, (w, (k', (K', (O', (N', (nx, ou))))))), (a, (o, v)))) := by
 unfold l_q20 gl_q20 entF
 try dsimp only
 by_cases c1 : q = 1
 ·rw [br_eq c1, if_pos c1]
  unfold l_q1w askF
  try dsimp only
  by_cases c : (wordS K w).2 = 0
  ·rw [br_ne' c, if_neg (by simpa using c), rcheck_eq h]
  ·rw [br_ne c, if_pos c]
 ·rw [br_eq' c1, if_neg c1]
  by_cases c2 : q = 2
  ·rw [br_ne' c2, if_pos c2]
   unfold l_q1y tstF
   rw [br_pos ⟨o1.1, o2.1⟩, checkS_eq o1 o2]
   try dsimp only
   by_cases c : (checkR k' K' O' N' nx ou).2 = 0
   ·rw [br_ne' c, if_neg (by simpa using c), ralike_eq]
    try dsimp only
    by_cases d : alikeS k K O k' K' O' = 0
    ·rw [br_ne' d, if_neg (by simpa using d), rcheck_eq h]
    ·rw [br_ne d, if_pos d]
   ·rw [br_ne c, if_pos c]
  ·rw [br_ne c2, if_neg c2]

abbrev KT0_q21 (R : Type) := Int -> Int -> Int -> Int -> Int -> (List Ent) -> Option R
abbrev LT_q21 := {R : Type} -> (List Int) -> (KT0_q21 R) -> Option R
abbrev GT_q21_5 (R : Type) := (List Int) -> Int -> Int -> Int -> Int -> Int -> (List Ent) -> Option R
abbrev GT_q21_14 (R : Type) := (List Int) -> Int -> Int -> Int -> Int -> (List Ent) -> Int -> Int -> Int -> (List Ent) -> Option R
abbrev gs_q21_5 (l_q1q : LT_q1q) (l_q20 : LT_q20) (l_q1v : LT_q1v) {R : Type} (g19_5 : GT_q21_5 R) (g19_14 : GT_q21_14 R) (K0 : KT0_q21 R) (b : List Int) (n i o0 o0_1 o0_2 : Int) (o1 : List Ent) : Option R :=
 bi (decide (i < (b.length : Int))) (bi (decide (0 ≤ i ∧ i < ((b.length : Nat) : Int))) (bi ((b.getD i.toNat 0) == 63) (bi (i == 0) (g19_5 b (IntKind.i64.wrap (n + 1)) (IntKind.i64.wrap (i + 1)) o0 o0_1 o0_2 o1) (bi (decide (0 ≤ (IntKind.i64.wrap (i - 1)) ∧ (IntKind.i64.wrap (i - 1)) < ((b.length : Nat) : Int))) (bi ((b.getD ((IntKind.i64.wrap (i - 1)).toNat) 0) == 10)
 (g19_5 b (IntKind.i64.wrap (n + 1)) (IntKind.i64.wrap (i + 1)) o0 o0_1 o0_2 o1) (g19_5 b n (IntKind.i64.wrap (i + 1)) o0 o0_1 o0_2 o1)) none)) (bi (decide (0 ≤ i ∧ i < ((b.length : Nat) : Int))) (bi ((b.getD i.toNat 0) == 33) (bi (i == 0) (g19_5 b (IntKind.i64.wrap (n + 1)) (IntKind.i64.wrap (i + 1)) o0 o0_1 o0_2 o1)
 (bi (decide (0 ≤ (IntKind.i64.wrap (i - 1)) ∧ (IntKind.i64.wrap (i - 1)) < ((b.length : Nat) : Int))) (bi ((b.getD ((IntKind.i64.wrap (i - 1)).toNat) 0) == 10) (g19_5 b (IntKind.i64.wrap (n + 1)) (IntKind.i64.wrap (i + 1)) o0 o0_1 o0_2 o1) (g19_5 b n (IntKind.i64.wrap (i + 1)) o0 o0_1 o0_2 o1)) none)) (g19_5 b n (IntKind.i64.wrap (i + 1)) o0 o0_1 o0_2 o1)) none)) none) (bi (decide (n > 65536))
 (K0 0 0 0 3 0 ([] : List Ent)) (l_q1q b (fun r1 r2 r3 r4 r5 r6 => bi (r5 != 0) (K0 0 0 0 r5 r4 ([] : List Ent)) (g19_14 b r4 o0 o0_1 o0_2 o1 r1 r2 r3 r6))))

def s_q21_5 {R : Type} := @gs_q21_5 @l_q1q @l_q20 @l_q1v R

abbrev gs_q21_14 (l_q1q : LT_q1q) (l_q20 : LT_q20) (l_q1v : LT_q1v) {R : Type} (g19_5 : GT_q21_5 R) (g19_14 : GT_q21_14 R) (K0 : KT0_q21 R) (b : List Int) (vat o0 o0_1 o0_2 : Int) (o1 : List Ent) (o2 o2_1 o2_2 : Int) (o3 : List Ent) : Option R :=
 bi (decide (vat < (b.length : Int))) (l_q1v o2 o2_1 o2_2 o3 b vat (fun r7 r8 r9 r10 r11 r12 r13 r14 r15 r16 r17 r18 r19 => bi (r14 != 0) (K0 0 0 0 r14 r13 ([] : List Ent)) (l_q20 o2 o2_1 o2_2 o3 r7 r15 r8 r9 r10 r11 r16 r17 r12 r18 r19 (fun r20 => bi (r20 != 0)
 (K0 0 0 0 r20 vat ([] : List Ent)) (bi (decide ((o3.length + [((r7, (r15, (r8, (r9, (r10, (r11, (r16, r17))))))), (r12, (r18, r19)))].length) * 168 ≤ lim)) (g19_14 b r13 o0 o0_1 o0_2 o1 o2 o2_1 o2_2 (o3 ++ [((r7, (r15, (r8, (r9, (r10, (r11, (r16, r17))))))), (r12, (r18, r19)))])) none)))))
 (K0 o2 o2_1 o2_2 0 (b.length : Int) o3)

def s_q21_14 {R : Type} := @gs_q21_14 @l_q1q @l_q20 @l_q1v R

abbrev ge_q21 (l_q1q : LT_q1q) (l_q20 : LT_q20) (l_q1v : LT_q1v) {R : Type} (g19_5 : GT_q21_5 R) (g19_14 : GT_q21_14 R) (K0 : KT0_q21 R) (b : List Int) : Option R :=
 bi (decide ((b.length : Int) > 16777216)) (K0 0 0 0 2 0 ([] : List Ent)) (g19_5 b 0 0 0 0 0 ([] : List Ent))

def e_q21 {R : Type} := @ge_q21 @l_q1q @l_q20 @l_q1v R

def run_q21 {R : Type} (K0 : KT0_q21 R) : Nat -> (GT_q21_5 R) × (GT_q21_14 R)
 |0 => (fun _ _ _ _ _ _ _ => none, fun _ _ _ _ _ _ _ _ _ _ => none)
 |n + 1 => (fun r => (s_q21_5 r.1 r.2 K0, s_q21_14 r.1 r.2 K0)) (run_q21 K0 n)

def l_q21 {R : Type} (b : List Int) (K0 : KT0_q21 R) : Option R := evl fun fuel => e_q21 (run_q21 K0 fuel).1 (run_q21 K0 fuel).2 K0 b

theorem rlp_okL {k K O N : Int} {nx ou : List Int} (F : Fine k K O N nx ou) : okL nx ∧ okL ou := by
 have h1 := F.fN
 have h2 := F.fK
 have h3 := F.fO
 have h4 := mulK ⟨h1, h2⟩
 have h5 := F.fnx
 refine ⟨⟨by unfold short; omega, fun x hx => ?_⟩, ⟨?_, fun x hx => ?_⟩⟩
 ·have := F.fnxs x hx
  unfold inI
  omega
 ·unfold short
  rcases F.fk with hk | hk
  ·have := F.fou1 hk
   omega
  ·have := F.fou2 hk
   omega
 ·have := F.fous x hx
  unfold inI
  omega

theorem rlp_hyp {b : List Int} {d : Nat} (h : (hypImp b d).e = 0) : okL (hypImp b d).nx ∧ okL (hypImp b d).ou := rlp_okL (imp_there h).1

theorem rlp_bi {R : Type} (T : Int) (X Y : Option R) : bi (T != 0) X Y = if T ≠ 0 then X else Y := by
 by_cases h : T = 0
 ·rw [br_ne' h, if_neg (by simpa using h)]
 ·rw [br_ne h, if_pos h]

theorem rlp_go {R : Type} {b : List Int} (hs : b.length ≤ 16777216) (hb : isB8 b) (k K O : Int) (K0 : Int -> Int -> Int -> Int -> Int -> List Ent -> Option R) :
  ∀ (n a : Nat) (acc : List Ent), b.length + 1 ≤ n + a -> a ≤ b.length -> acc.length ≤ a -> Reach (fun m => (run_q21 K0 m).2 b (a : Int) 0 0 0 [] k K O acc) (outP k K O b K0 (parsS k K O b n a acc))
 |0, a, acc, hn, ha, hl => by omega
 |n + 1, a, acc, hn, ha, hl => by
  have lim1 : ∀ x : Ent, (acc.length + [x].length) * 168 ≤ lim := fun x => by
   simp only [List.length_cons, List.length_nil, lim]
   omega
  have start : ∀ m, (run_q21 K0 (m + 1)).2 b (a : Int) 0 0 0 [] k K O acc = s_q21_14 (run_q21 K0 m).1 (run_q21 K0 m).2 K0 b (a : Int) 0 0 0 [] k K O acc := fun m => rfl
  unfold parsS
  by_cases hab : a < b.length
  ·rw [if_pos hab]
   have ent : ∀ KK : Int -> Int -> Int -> Int -> Int -> Int -> Int -> Int -> List Int -> List Int -> List Int -> List Int -> List Int -> Option R, (∀ q k K O N a p e : Int, ∀ w nx ou o v : List Int, e ≠ 0 -> KK q k K O N a p e w nx ou o v = K0 0 0 0 e p []) -> l_q1v k K O acc b (a : Int) KK =
     if isS [63] b (.inr a) = true then raskV KK (fun p e => K0 0 0 0 e p []) k K O b a else match wnt [33, 10] b (.inr a) with
      |.inl f => K0 0 0 0 f.1 f.2 []
      |.inr d => rhypV KK (fun p e => K0 0 0 0 e p []) b d := fun KK hK => rentry_eq (B := fun p e => K0 0 0 0 e p []) hs hb hK hab
   by_cases h63 : isS [63] b (.inr a) = true
   ·rw [if_pos h63]
    have eR : isR [63] b (.inr a) = .inr (a + 1) := if_pos (by simpa [isS] using h63)
    rw [eR]
    have ha1 : a + 1 ≤ b.length := hab
    have hok : okR b (memE b (.inr (a + 1))) := memE_ok (r := .inr (a + 1)) ha1
    have ho : (roV (memO b (.inr (a + 1)))).length ≤ b.length := row_len (wnt_ok (row_ok (r := .inr (a + 1)) ha1))
    cases hE : memE b (.inr (a + 1)) with
    |inl f =>
     rw [hE] at hok
     have hf : f.1 ≠ 0 := hok
     refine .now fun m => ?_
     rw [start]
     unfold s_q21_14 gs_q21_14
     rw [br_pos (by omega), ent _ (fun _ _ _ _ _ _ _ _ _ _ _ _ _ h => br_ne h), if_pos h63]
     unfold raskV
     rw [hE]
     rfl
    |inr c =>
     rw [hE] at hok
     have hcb : c ≤ b.length := hok
     obtain ⟨a0, e0, hc⟩ := memE_gt hE
     obtain rfl : a + 1 = a0 := Sum.inr.inj e0
     try dsimp only
     have key : ∀ m, (run_q21 K0 (m + 1)).2 b (a : Int) 0 0 0 [] k K O acc = if askF k K O (roV (memW b (.inr (a + 1)))) 1 (roV (memO b (.inr (a + 1)))) [] ≠ 0 then K0 0 0 0 (askF k K O (roV (memW b (.inr (a + 1)))) 1 (roV (memO b (.inr (a + 1)))) []) (a : Int) []
       else (run_q21 K0 m).2 b (c : Int) 0 0 0 [] k K O (acc ++ [((1, (roV (memW b (.inr (a + 1))), (k, (K, (O, (0, ([], []))))))), (1, (roV (memO b (.inr (a + 1))), [])))]) := by
      intro m
      rw [start]
      unfold s_q21_14 gs_q21_14
      rw [br_pos (by omega), ent _ (fun _ _ _ _ _ _ _ _ _ _ _ _ _ h => br_ne h), if_pos h63]
      unfold raskV
      rw [hE]
      show bi ((0 : Int) != 0) _ _ = _
      rw [br_ne' rfl, rfault_eq (by unfold short; omega) (by decide) (by decide)]
      try dsimp only
      rw [show entF k K O ((1, (roV (memW b (.inr (a + 1))), (k, (K, (O, (0, ([], []))))))), (1, (roV (memO b (.inr (a + 1))), []))) = askF k K O (roV (memW b (.inr (a + 1)))) 1 (roV (memO b (.inr (a + 1)))) [] from if_pos rfl]
      rw [rlp_bi, br_pos (lim1 _)]
     by_cases hF : askF k K O (roV (memW b (.inr (a + 1)))) 1 (roV (memO b (.inr (a + 1)))) [] = 0
     ·rw [if_neg (by simpa using hF)]
      refine .step (fun m => ?_) (rlp_go hs hb k K O K0 n c _ (by omega) hcb (by rw [List.length_append, List.length_singleton]; omega))
      rw [key, if_neg (by simpa using hF)]
     ·rw [if_pos hF]
      refine .now fun m => ?_
      rw [key, if_pos hF]
      rfl
   ·rw [if_neg h63, isR_no h63]
    have i63 : isS [63] b (.inr a) = false := by simpa using h63
    by_cases h33 : isS [33] b (.inr a) = true
    ·have g33 : b[a]? = some 33 := take_one.1 (by simpa [isS] using h33)
     have eR : isR [33] b (.inr a) = .inr (a + 1) := if_pos (take_one.2 g33)
     have ha1 : a + 1 ≤ b.length := hab
     have eW : wnt [33, 10] b (.inr a) = wantS [10] b (a + 1) := by
      show wantS [33, 10] b a = _
      conv => lhs; unfold wantS
      rw [if_pos g33]
     have ok1 := wantS_st (b := b) [10] (a + 1) ha1
     rw [if_pos h33, eR]
     show Reach _ (outP k K O b K0 (match wantS [10] b (a + 1) with
      |.inl f => .inl f
      |.inr d => _))
     cases hW : wantS [10] b (a + 1) with
     |inl f =>
      rw [hW] at ok1
      refine .now fun m => ?_
      rw [start]
      unfold s_q21_14 gs_q21_14
      rw [br_pos (by omega), ent _ (fun _ _ _ _ _ _ _ _ _ _ _ _ _ h => br_ne h), if_neg h63, eW, hW]
      rfl
     |inr d =>
      rw [hW] at ok1
      have hdb : d ≤ b.length := ok1
      have ed := (wantS_ok hW).1
      simp only [List.length_cons, List.length_nil] at ed
      try dsimp only
      by_cases hbad : hypEnd b d < 0 ∨ (hypImp b d).e ≠ 0
      ·rw [if_pos hbad]
       refine .now fun m => ?_
       rw [start]
       unfold s_q21_14 gs_q21_14
       rw [br_pos (by omega), ent _ (fun _ _ _ _ _ _ _ _ _ _ _ _ _ h => br_ne h), if_neg h63, eW, hW]
       try dsimp only
       unfold rhypV
       rw [if_pos hbad]
       rfl
      ·rw [if_neg hbad]
       have he : (hypImp b d).e = 0 := Decidable.not_not.1 fun q => hbad (.inr q)
       obtain ⟨o1, o2⟩ := rlp_hyp he
       have hzok := hypZ_ok (b := b) (a := d) ⟨by omega, hdb⟩
       cases hZ : hypZ b d with
       |inl f =>
        rw [hZ] at hzok
        refine .now fun m => ?_
        rw [start]
        unfold s_q21_14 gs_q21_14
        rw [br_pos (by omega), ent _ (fun _ _ _ _ _ _ _ _ _ _ _ _ _ h => br_ne h), if_neg h63, eW, hW]
        try dsimp only
        unfold rhypV
        rw [if_neg hbad, hZ]
        rfl
       |inr c =>
        rw [hZ] at hzok
        have hcb : c ≤ b.length := hzok
        have hgt := hypZ_gt hZ
        try dsimp only
        have key : ∀ m, (run_q21 K0 (m + 1)).2 b (a : Int) 0 0 0 [] k K O acc = if tstF k K O (hypImp b d).k (hypImp b d).K (hypImp b d).O (hypImp b d).N (hypImp b d).nx (hypImp b d).ou (if hypY b d = true then 2 else 3) [] (if hypY b d = true then [] else roV (hypN b d)) ≠ 0 then
          K0 0 0 0 (tstF k K O (hypImp b d).k (hypImp b d).K (hypImp b d).O (hypImp b d).N (hypImp b d).nx (hypImp b d).ou (if hypY b d = true then 2 else 3) [] (if hypY b d = true then [] else roV (hypN b d))) (a : Int) []
          else (run_q21 K0 m).2 b (c : Int) 0 0 0 [] k K O (acc ++ [((2, ([], ((hypImp b d).k, ((hypImp b d).K, ((hypImp b d).O, ((hypImp b d).N, ((hypImp b d).nx, (hypImp b d).ou))))))), ((if hypY b d = true then 2 else 3), ([], (if hypY b d = true then [] else roV (hypN b d)))))]) := by
         intro m
         rw [start]
         unfold s_q21_14 gs_q21_14
         rw [br_pos (by omega), ent _ (fun _ _ _ _ _ _ _ _ _ _ _ _ _ h => br_ne h), if_neg h63, eW, hW]
         try dsimp only
         unfold rhypV
         rw [if_neg hbad, hZ]
         show bi ((0 : Int) != 0) _ _ = _
         rw [br_ne' rfl, rfault_eq (by decide) o1 o2]
         try dsimp only
         rw [show entF k K O ((2, ([], ((hypImp b d).k, ((hypImp b d).K, ((hypImp b d).O, ((hypImp b d).N, ((hypImp b d).nx, (hypImp b d).ou))))))), ((if hypY b d = true then 2 else 3), ([], (if hypY b d = true then [] else roV (hypN b d))))) = tstF k K O (hypImp b d).k (hypImp b d).K (hypImp b d).O (hypImp b d).N (hypImp b d).nx (hypImp b d).ou (if hypY b d = true then 2 else 3) [] (if hypY b d = true then [] else roV (hypN b d)) by unfold entF; rw [if_neg (show ¬ ((2 : Int) = 1) by decide), if_pos rfl]]
         rw [rlp_bi, br_pos (lim1 _)]
        by_cases hF : tstF k K O (hypImp b d).k (hypImp b d).K (hypImp b d).O (hypImp b d).N (hypImp b d).nx (hypImp b d).ou (if hypY b d = true then 2 else 3) [] (if hypY b d = true then [] else roV (hypN b d)) = 0
        ·rw [if_neg (by simpa using hF)]
         refine .step (fun m => ?_) (rlp_go hs hb k K O K0 n c _ (by omega) hcb (by rw [List.length_append, List.length_singleton]; omega))
         rw [key, if_neg (by simpa using hF)]
        ·rw [if_pos hF]
         refine .now fun m => ?_
         rw [key, if_pos hF]
         rfl
    ·have g33 : ¬ b[a]? = some 33 := fun q => h33 (decide_eq_true (take_one.2 q))
     have eW : wnt [33, 10] b (.inr a) = .inl (6, (a : Int)) := by
      show wantS [33, 10] b a = _
      unfold wantS
      rw [if_neg g33]
     rw [if_neg h33]
     refine .now fun m => ?_
     rw [start]
     unfold s_q21_14 gs_q21_14
     rw [br_pos (by omega), ent _ (fun _ _ _ _ _ _ _ _ _ _ _ _ _ h => br_ne h), if_neg h63, eW]
     rfl
  ·rw [if_neg hab]
   refine .now fun m => ?_
   rw [start]
   unfold s_q21_14 gs_q21_14
   rw [br_neg (by omega)]
   rfl

/-- Of the first loop it plays no part what is counted: it is little. -/
theorem rlp_cnt {R : Type} {b : List Int} (hl : b.length ≤ 20000) (K0 : Int -> Int -> Int -> Int -> Int -> List Ent -> Option R) {v : Option R}
  (hv : Reach (fun m => l_q1q b (fun r1 r2 r3 r4 r5 r6 => bi (r5 != 0) (K0 0 0 0 r5 r4 []) ((run_q21 K0 m).2 b r4 0 0 0 [] r1 r2 r3 r6))) v) : ∀ (d i : Nat) (n : Int), i + d = b.length -> 0 ≤ n ∧ n ≤ i -> Reach (fun m => (run_q21 K0 m).1 b n (i : Int) 0 0 0 []) v
 |0, i, n, hi, hn => by
  refine .step (fun m => ?_) hv
  rw [show (run_q21 K0 (m + 1)).1 = s_q21_5 (run_q21 K0 m).1 (run_q21 K0 m).2 K0 from rfl]
  unfold s_q21_5 gs_q21_5
  rw [br_neg (by omega), br_neg (by omega)]
 |d + 1, i, n, hi, hn => by
  have hil : i < b.length := by omega
  have h1 := rlp_cnt hl K0 hv d (i + 1) n (by omega) (by omega)
  have h2 := rlp_cnt hl K0 hv d (i + 1) (n + 1) (by omega) (by omega)
  have key : (∀ m, (run_q21 K0 (m + 1)).1 b n (i : Int) 0 0 0 [] = (run_q21 K0 m).1 b n ((i + 1 : Nat) : Int) 0 0 0 []) ∨ (∀ m, (run_q21 K0 (m + 1)).1 b n (i : Int) 0 0 0 [] = (run_q21 K0 m).1 b (n + 1) ((i + 1 : Nat) : Int) 0 0 0 []) := by
   have st : ∀ m, (run_q21 K0 (m + 1)).1 = s_q21_5 (run_q21 K0 m).1 (run_q21 K0 m).2 K0 := fun m => rfl
   by_cases c63 : b[i] = 63
   ·by_cases c0 : i = 0
    ·right
     intro m
     rw [st]
     unfold s_q21_5 gs_q21_5
     rw [br_pos (by omega), br_pos (by omega), Int.toNat_natCast, getD_of 0 hil, br_eq c63, br_eq (by omega), wr (n + 1) (by omega) (by omega), wr ((i : Int) + 1) (by omega) (by omega)]
     rfl
    ·have hi1 : i - 1 < b.length := by omega
     by_cases c10 : b[i - 1] = 10
     ·right
      intro m
      rw [st]
      unfold s_q21_5 gs_q21_5
      rw [br_pos (by omega), br_pos (by omega), Int.toNat_natCast, getD_of 0 hil, br_eq c63, br_eq' (by omega), wr (n + 1) (by omega) (by omega), wr ((i : Int) + 1) (by omega) (by omega), wr ((i : Int) - 1) (by omega) (by omega), br_pos (by omega), show ((i : Int) - 1).toNat = i - 1 by omega, getD_of 0 hi1, br_eq c10]
      rfl
     ·left
      intro m
      rw [st]
      unfold s_q21_5 gs_q21_5
      rw [br_pos (by omega), br_pos (by omega), Int.toNat_natCast, getD_of 0 hil, br_eq c63, br_eq' (by omega), wr ((i : Int) + 1) (by omega) (by omega), wr ((i : Int) - 1) (by omega) (by omega), br_pos (by omega), show ((i : Int) - 1).toNat = i - 1 by omega, getD_of 0 hi1, br_eq' c10]
      rfl
   ·by_cases c33 : b[i] = 33
    ·by_cases c0 : i = 0
     ·right
      intro m
      rw [st]
      unfold s_q21_5 gs_q21_5
      rw [br_pos (by omega), br_pos (by omega), Int.toNat_natCast, getD_of 0 hil, br_eq' c63, br_pos (by omega), br_eq c33, br_eq (by omega), wr (n + 1) (by omega) (by omega), wr ((i : Int) + 1) (by omega) (by omega)]
      rfl
     ·have hi1 : i - 1 < b.length := by omega
      by_cases c10 : b[i - 1] = 10
      ·right
       intro m
       rw [st]
       unfold s_q21_5 gs_q21_5
       rw [br_pos (by omega), br_pos (by omega), Int.toNat_natCast, getD_of 0 hil, br_eq' c63, br_pos (by omega), br_eq c33, br_eq' (by omega), wr (n + 1) (by omega) (by omega), wr ((i : Int) + 1) (by omega) (by omega), wr ((i : Int) - 1) (by omega) (by omega), br_pos (by omega), show ((i : Int) - 1).toNat = i - 1 by omega, getD_of 0 hi1, br_eq c10]
       rfl
      ·left
       intro m
       rw [st]
       unfold s_q21_5 gs_q21_5
       rw [br_pos (by omega), br_pos (by omega), Int.toNat_natCast, getD_of 0 hil, br_eq' c63, br_pos (by omega), br_eq c33, br_eq' (by omega), wr ((i : Int) + 1) (by omega) (by omega), wr ((i : Int) - 1) (by omega) (by omega), br_pos (by omega), show ((i : Int) - 1).toNat = i - 1 by omega, getD_of 0 hi1, br_eq' c10]
       rfl
    ·left
     intro m
     rw [st]
     unfold s_q21_5 gs_q21_5
     rw [br_pos (by omega), br_pos (by omega), Int.toNat_natCast, getD_of 0 hil, br_eq' c63, br_pos (by omega), br_eq' c33, wr ((i : Int) + 1) (by omega) (by omega)]
     rfl
  rcases key with h | h
  ·exact .step h h1
  ·exact .step h h2

theorem nentS_few {b : List Int} (hb : isB8 b) (hl : b.length ≤ 20000) : ¬ nentS b > 65536 := by
 have := nentS_le hb (by omega)
 have h1 := List.count_le_length (a := (63 : Int)) (l := b)
 have h2 := List.count_le_length (a := (33 : Int)) (l := b)
 omega

theorem rlparse_eq {R : Type} {b : List Int} (hb : isB8 b) (hl : b.length ≤ 20000) (K0 : Int -> Int -> Int -> Int -> Int -> List Ent -> Option R) : l_q21 b K0 = parseP b K0 := by
 have hsh : short b := by unfold short; omega
 have hK : ∀ (m : Nat) (k K O k' K' O' p e : Int), e ≠ 0 -> (fun r1 r2 r3 r4 r5 r6 => bi (r5 != 0) (K0 0 0 0 r5 r4 []) ((run_q21 K0 m).2 b r4 0 0 0 [] r1 r2 r3 r6) : Int -> Int -> Int -> Int -> Int -> List Ent -> Option R) k K O p e [] = (fun r1 r2 r3 r4 r5 r6 => bi (r5 != 0) (K0 0 0 0 r5 r4 []) ((run_q21 K0 m).2 b r4 0 0 0 [] r1 r2 r3 r6) : Int -> Int -> Int -> Int -> Int -> List Ent -> Option R) k' K' O' p e [] := fun m k K O k' K' O' p e he => by
  try dsimp only
  rw [br_ne he, br_ne he]
 have hok := firstL_ok (b := b) (r := .inr 0) (Nat.zero_le _)
 refine evl_eq (.same (fun m => ?_) (rlp_cnt hl K0 (v := parseP b K0) ?_ b.length 0 0 (by omega) (by omega)))
 ·unfold e_q21 ge_q21
  rw [br_neg (by omega)]
  rfl
 ·unfold parseP
  rw [if_neg (by omega), if_neg (nentS_few hb hl)]
  cases hr : (firstL b (.inr 0)).2.2.2 with
  |inl f =>
   rw [hr] at hok
   have hf : f.1 ≠ 0 := hok
   refine .now fun m => ?_
   rw [rfirst_eq hsh _ (hK _), hr]
   show bi (f.1 != 0) _ _ = _
   rw [br_ne hf]
   rfl
  |inr a =>
   rw [hr] at hok
   have ha : a ≤ b.length := hok
   refine .same (fun m => ?_) (rlp_go (by omega) hb _ _ _ K0 (b.length + 1) a [] (by omega) ha (by simp))
   rw [rfirst_eq hsh _ (hK _), hr]
   show bi ((0 : Int) != 0) _ _ = _
   rw [br_ne' rfl]
   rfl

abbrev LT_q22 := {R : Type} -> (List Int) -> (List Int) -> (Bool -> Option R) -> Option R
abbrev GT_q22_4 (R : Type) := (List Int) -> (List Int) -> Int -> Option R
def s_q22_4 {R : Type} (g48_4 : GT_q22_4 R) (K0 : Bool -> Option R) (a b : List Int) (i : Int) : Option R :=
 bi (decide (i < (a.length : Int))) (bi (decide (0 ≤ i ∧ i < ((a.length : Nat) : Int))) (bi (decide (0 ≤ i ∧ i < ((b.length : Nat) : Int))) (bi ((a.getD i.toNat 0) != (b.getD i.toNat 0)) (K0 false) (g48_4 a b (IntKind.i64.wrap (i + 1)))) none) none) (K0 true)

def e_q22 {R : Type} (g48_4 : GT_q22_4 R) (K0 : Bool -> Option R) (a b : List Int) : Option R :=
 bi ((a.length : Int) != (b.length : Int)) (K0 false) (g48_4 a b 0)

def run_q22 {R : Type} (K0 : Bool -> Option R) : Nat -> GT_q22_4 R
 |0 => fun _ _ _ => none
 |n + 1 => s_q22_4 (run_q22 K0 n) K0

def l_q22 {R : Type} (a : List Int) (b : List Int) (K0 : Bool -> Option R) : Option R := bi (decide (short a)) (K0 (decide (a = b))) none

theorem findP_zip {a b : List Int} (hl : a.length = b.length) : findP (fun i => a.getD i 0 != b.getD i 0) (List.range a.length) = none ↔ a = b := by
 rw [findP_none]
 constructor
 ·intro h
  refine List.ext_getElem hl fun i h1 h2 => ?_
  have := h i (by simpa using h1)
  rw [getD_of 0 h1, getD_of 0 h2] at this
  simpa using this
 ·rintro rfl i _
  simp

theorem ok_q22 {R : Type} (a : List Int) (b : List Int) (K0 : Bool -> Option R) {r : R} (h : l_q22 a b K0 = some r) : ∃ fuel, e_q22 (run_q22 K0 fuel) K0 a b = some r := by
 unfold l_q22 at h
 rcases bi_some h with ⟨hs, h⟩ | ⟨_, h⟩
 ·have hs : a.length < 4611686018427387904 := of_decide_eq_true hs
  refine ⟨a.length + 1, ?_⟩
  rw [← h]
  unfold e_q22
  by_cases hl : a.length = b.length
  ·rw [br_ne' (by omega)]
   have key := scan_all (F := fun m i => run_q22 K0 m a b (i : Int)) (fun i => a.getD i 0 != b.getD i 0) (l := List.range a.length) (A := fun i => K0 false) (B := K0 true)
    (fun m => by
     show s_q22_4 _ _ _ _ _ = _
     unfold s_q22_4
     rw [List.length_range, br_neg (by omega)])
    (fun m i hi => by
     rw [List.length_range] at hi
     show s_q22_4 _ _ _ _ _ = _
     unfold s_q22_4
     rw [br_pos (by omega), br_pos (by omega), br_pos (by omega), br_if, Int.toNat_natCast, wr _ (by omega) (by omega), List.getElem_range]
     rfl)
   rw [List.length_range] at key
   refine key.trans ?_
   by_cases e : a = b
   ·rw [(findP_zip hl).2 e]
    simp [e]
   ·have : findP (fun i => a.getD i 0 != b.getD i 0) (List.range a.length) ≠ none := fun h => e ((findP_zip hl).1 h)
    cases hf : findP (fun i => a.getD i 0 != b.getD i 0) (List.range a.length) with
    |none => exact absurd hf this
    |some j => simp [e]
  ·rw [br_ne (by omega)]
   have e : a ≠ b := fun e => hl (by rw [e])
   simp [e]
 ·cases h

theorem same_eq {R : Type} {a b : List Int} (h : short a) (K0 : Bool -> Option R) : l_q22 a b K0 = K0 (decide (a = b)) := by
 unfold l_q22
 rw [br_pos h]

abbrev LT_q23 := {R : Type} -> Int -> Int -> Int -> Int -> (List Int) -> (List Int) -> Int -> Int -> Int -> Int -> (List Int) -> (List Int) -> (Bool -> Option R) -> Option R
abbrev gl_q23 (l_q22 : LT_q22) {R : Type} (a a_1 a_2 a_3 : Int) (a_4 a_5 : List Int) (b b_1 b_2 b_3 : Int) (b_4 b_5 : List Int) (K0 : Bool -> Option R) : Option R :=
 bi (a == b) (bi (a_1 == b_1) (bi (a_2 == b_2) (bi (a_3 == b_3) (l_q22 a_4 b_4 (fun r1 => bi r1 (l_q22 a_5 b_5 (fun r2 => K0 r2)) (K0 false))) (K0 false)) (K0 false)) (K0 false)) (K0 false)

def l_q23 {R : Type} := @gl_q23 @l_q22 R

theorem sameM_eq {R : Type} {k K O N : Int} {nx ou : List Int} (h1 : short nx) (h2 : short ou) (K0 : Bool -> Option R) :
  l_q23 k K O N nx ou k K O N nx ou K0 = K0 true := by
 unfold l_q23 gl_q23
 rw [br_eq rfl, br_eq rfl, br_eq rfl, br_eq rfl, same_eq h1]
 try dsimp only
 rw [br_pos rfl, same_eq h2]
 simp

abbrev LT_q24 := {R : Type} -> (List (Int × (List Int × List Int))) -> (List (Int × (List Int × List Int))) -> (Bool -> Option R) -> Option R
abbrev GT_q24_4 (R : Type) := (List (Int × (List Int × List Int))) -> (List (Int × (List Int × List Int))) -> Int -> Option R
abbrev gs_q24_4 (l_q22 : LT_q22) {R : Type} (g31_4 : GT_q24_4 R) (K0 : Bool -> Option R) (a b : List (Int × (List Int × List Int))) (i : Int) : Option R :=
 bi (decide (i < (a.length : Int))) (bi (decide (0 ≤ i ∧ i < ((a.length : Nat) : Int))) (bi (decide (0 ≤ i ∧ i < ((b.length : Nat) : Int))) (bi (((a.getD i.toNat (0, ([], []))).1) != ((b.getD i.toNat (0, ([], []))).1)) (K0 false) (bi (decide (0 ≤ i ∧ i < ((a.length : Nat) : Int))) (bi (decide (0 ≤ i ∧ i < ((b.length : Nat) : Int)))
 (l_q22 (((a.getD i.toNat (0, ([], []))).2).1) (((b.getD i.toNat (0, ([], []))).2).1) (fun r1 => bi (!r1) (K0 false) (bi (decide (0 ≤ i ∧ i < ((a.length : Nat) : Int))) (bi (decide (0 ≤ i ∧ i < ((b.length : Nat) : Int))) (twice (l_q22 (((a.getD i.toNat (0, ([], []))).2).2) (((b.getD i.toNat (0, ([], []))).2).2) (fun r2 => bi (!r2) (K0 false)
 (g31_4 a b (IntKind.i64.wrap (i + 1)))))) none) none))) none) none)) none) none) (K0 true)

def s_q24_4 {R : Type} := @gs_q24_4 @l_q22 R

abbrev ge_q24 (l_q22 : LT_q22) {R : Type} (g31_4 : GT_q24_4 R) (K0 : Bool -> Option R) (a b : List (Int × (List Int × List Int))) : Option R :=
 bi ((a.length : Int) != (b.length : Int)) (K0 false) (g31_4 a b 0)

def e_q24 {R : Type} := @ge_q24 @l_q22 R

def run_q24 {R : Type} (K0 : Bool -> Option R) : Nat -> GT_q24_4 R
 |0 => fun _ _ _ => none
 |n + 1 => s_q24_4 (run_q24 K0 n) K0

def shortA (l : List (Int × (List Int × List Int))) : Bool := decide (l.length < 4611686018427387904) && l.all fun e => decide (short e.2.1) && decide (short e.2.2)

def l_q24 {R : Type} (a : List (Int × (List Int × List Int))) (b : List (Int × (List Int × List Int))) (K0 : Bool -> Option R) : Option R :=
 bi (shortA a) (K0 (decide (a = b))) none

theorem sameA_run {R : Type} {a b : List (Int × (List Int × List Int))} (hs : shortA a = true) (hl : a.length = b.length) (K0 : Bool -> Option R) :
  ∀ (d i : Nat), i + d = a.length -> a.take i = b.take i -> Reach (fun m => run_q24 K0 m a b (i : Int)) (K0 (decide (a = b))) := by
 unfold shortA at hs
 rw [Bool.and_eq_true, List.all_eq_true] at hs
 have hsl : a.length < 4611686018427387904 := of_decide_eq_true hs.1
 have hse : ∀ e ∈ a, short e.2.1 ∧ short e.2.2 := fun e he => by
  have := hs.2 e he
  rw [Bool.and_eq_true] at this
  exact ⟨of_decide_eq_true this.1, of_decide_eq_true this.2⟩
 intro d
 induction d with
 |zero =>
  intro i hi ht
  have e : a = b := by
   rw [List.take_of_length_le (by omega), List.take_of_length_le (by omega)] at ht
   exact ht
  refine .now fun m => ?_
  show s_q24_4 _ _ _ _ _ = _
  unfold s_q24_4 gs_q24_4
  rw [br_neg (by omega), decide_eq_true e]
 |succ d ih =>
  intro i hi ht
  have h1 : i < a.length := by omega
  have h2 : i < b.length := by omega
  have hm := hse _ (List.getElem_mem h1)
  have key : ∀ m, run_q24 K0 (m + 1) a b (i : Int) = if a[i] = b[i] then run_q24 K0 m a b ((i + 1 : Nat) : Int) else K0 false := by
   intro m
   show s_q24_4 (run_q24 K0 m) _ _ _ _ = _
   unfold s_q24_4 gs_q24_4
   simp only [both_same, twice_eq, thrice_eq]
   rw [br_pos (by omega), br_pos (by omega), br_pos (by omega), br_pos (p := 0 ≤ (i : Int) ∧ (i : Int) < ((a.length : Nat) : Int)) (by omega), br_pos (p := 0 ≤ (i : Int) ∧ (i : Int) < ((b.length : Nat) : Int)) (by omega),
    br_pos (p := 0 ≤ (i : Int) ∧ (i : Int) < ((a.length : Nat) : Int)) (by omega), br_pos (p := 0 ≤ (i : Int) ∧ (i : Int) < ((b.length : Nat) : Int)) (by omega), Int.toNat_natCast, getD_of (0, ([], [])) h1, getD_of (0, ([], [])) h2, wr _ (by omega) (by omega)]
   by_cases c1 : a[i].1 = b[i].1
   ·rw [br_ne' c1, same_eq hm.1]
    try dsimp only
    by_cases c2 : a[i].2.1 = b[i].2.1
    ·rw [decide_eq_true c2, show (!true) = false from rfl, br_ff, same_eq hm.2]
     try dsimp only
     by_cases c3 : a[i].2.2 = b[i].2.2
     ·rw [decide_eq_true c3, show (!true) = false from rfl, br_ff, if_pos (Prod.ext c1 (Prod.ext c2 c3))]
      rfl
     ·rw [decide_eq_false c3, show (!false) = true from rfl, br_tt, if_neg (fun h => c3 (by rw [h]))]
    ·rw [decide_eq_false c2, show (!false) = true from rfl, br_tt, if_neg (fun h => c2 (by rw [h]))]
   ·rw [br_ne c1, if_neg (fun h => c1 (by rw [h]))]
  by_cases c : a[i] = b[i]
  ·refine .step (fun m => by rw [key, if_pos c]) (ih (i + 1) (by omega) ?_)
   rw [List.take_add_one, List.take_add_one, ht, List.getElem?_eq_getElem h1, List.getElem?_eq_getElem h2, c]
  ·refine .now fun m => ?_
   rw [key, if_neg c, decide_eq_false]
   intro h
   exact c (by simp only [h])

theorem ok_q24 {R : Type} (a : List (Int × (List Int × List Int))) (b : List (Int × (List Int × List Int))) (K0 : Bool -> Option R) {r : R} (h : l_q24 a b K0 = some r) : ∃ fuel, e_q24 (run_q24 K0 fuel) K0 a b = some r := by
 unfold l_q24 at h
 rcases bi_some h with ⟨hs, h⟩ | ⟨_, h⟩
 ·rw [← h]
  unfold e_q24 ge_q24
  by_cases hl : a.length = b.length
  ·obtain ⟨n, hn⟩ := (sameA_run hs hl K0 a.length 0 (by omega) rfl).get
   refine ⟨n, ?_⟩
   rw [br_ne' (by omega)]
   exact hn
  ·refine ⟨0, ?_⟩
   rw [br_ne (by omega), decide_eq_false]
   intro e
   exact hl (by rw [e])
 ·cases h

abbrev LT_q25 := {R : Type} -> Int -> Int -> Int -> (List Ent) -> Int -> Int -> Int -> (List Ent) -> (Bool -> Option R) -> Option R
abbrev GT_q25_4 (R : Type) := Int -> Int -> Int -> Int -> (List Ent) -> Int -> Int -> Int -> (List Ent) -> Option R
abbrev GT_q25_7 (R : Type) := Int -> Int -> Int -> Int -> (List Ent) -> Int -> Int -> Int -> (List Ent) -> Int -> (List Int) -> Int -> Int -> Int -> Int -> (List Int) -> (List Int) -> Int -> (List Int) -> (List Int) -> Int -> (List Int) -> Int -> Int -> Int -> Int -> (List Int) -> (List Int) -> Int -> (List Int) -> (List Int) -> Option R
abbrev gs_q25_4 (l_q24 : LT_q24) (l_q23 : LT_q23) (l_q22 : LT_q22) {R : Type} (g20_4 : GT_q25_4 R) (g20_7 : GT_q25_7 R) (K0 : Bool -> Option R) (i o0 o0_1 o0_2 : Int) (o0_3 : List Ent) (o1 o1_1 o1_2 : Int) (o1_3 : List Ent) : Option R :=
 bi (decide (i < (o0_3.length : Int))) (bi (decide (0 ≤ i ∧ i < ((o0_3.length : Nat) : Int))) (both (bi (decide (0 ≤ i ∧ i < ((o1_3.length : Nat) : Int))) (both (twice
 (g20_7 i o0 o0_1 o0_2 o0_3 o1 o1_1 o1_2 o1_3 ((eat o0_3 i).1.1) ((eat o0_3 i).1.2.1) ((eat o0_3 i).1.2.2.1) ((eat o0_3 i).1.2.2.2.1) ((eat o0_3 i).1.2.2.2.2.1) ((eat o0_3 i).1.2.2.2.2.2.1) ((eat o0_3 i).1.2.2.2.2.2.2.1) ((eat o0_3 i).1.2.2.2.2.2.2.2) ((eat o0_3 i).2.1) ((eat o0_3 i).2.2.1) ((eat o0_3 i).2.2.2) ((eat o1_3 i).1.1) ((eat o1_3 i).1.2.1) ((eat o1_3 i).1.2.2.1) ((eat o1_3 i).1.2.2.2.1) ((eat o1_3 i).1.2.2.2.2.1) ((eat o1_3 i).1.2.2.2.2.2.1) ((eat o1_3 i).1.2.2.2.2.2.2.1) ((eat o1_3 i).1.2.2.2.2.2.2.2) ((eat o1_3 i).2.1) ((eat o1_3 i).2.2.1) ((eat o1_3 i).2.2.2)))
 (twice (thrice
 (g20_7 i o0 o0_1 o0_2 o0_3 o1 o1_1 o1_2 o1_3 ((eat o0_3 i).1.1) ((eat o0_3 i).1.2.1) ((eat o0_3 i).1.2.2.1) ((eat o0_3 i).1.2.2.2.1) ((eat o0_3 i).1.2.2.2.2.1) ((eat o0_3 i).1.2.2.2.2.2.1) ((eat o0_3 i).1.2.2.2.2.2.2.1) ((eat o0_3 i).1.2.2.2.2.2.2.2) ((eat o0_3 i).2.1) ((eat o0_3 i).2.2.1) ((eat o0_3 i).2.2.2) ((eat o1_3 i).1.1) ((eat o1_3 i).1.2.1) ((eat o1_3 i).1.2.2.1) ((eat o1_3 i).1.2.2.2.1) ((eat o1_3 i).1.2.2.2.2.1) ((eat o1_3 i).1.2.2.2.2.2.1) ((eat o1_3 i).1.2.2.2.2.2.2.1) ((eat o1_3 i).1.2.2.2.2.2.2.2) ((eat o1_3 i).2.1) ((eat o1_3 i).2.2.1) ((eat o1_3 i).2.2.2)))))
 none) (twice (both (bi (decide (0 ≤ i ∧ i < ((o1_3.length : Nat) : Int))) (thrice
 (g20_7 i o0 o0_1 o0_2 o0_3 o1 o1_1 o1_2 o1_3 ((eat o0_3 i).1.1) ((eat o0_3 i).1.2.1) ((eat o0_3 i).1.2.2.1) ((eat o0_3 i).1.2.2.2.1) ((eat o0_3 i).1.2.2.2.2.1) ((eat o0_3 i).1.2.2.2.2.2.1) ((eat o0_3 i).1.2.2.2.2.2.2.1) ((eat o0_3 i).1.2.2.2.2.2.2.2) ((eat o0_3 i).2.1) ((eat o0_3 i).2.2.1) ((eat o0_3 i).2.2.2) ((eat o1_3 i).1.1) ((eat o1_3 i).1.2.1) ((eat o1_3 i).1.2.2.1) ((eat o1_3 i).1.2.2.2.1) ((eat o1_3 i).1.2.2.2.2.1) ((eat o1_3 i).1.2.2.2.2.2.1) ((eat o1_3 i).1.2.2.2.2.2.2.1) ((eat o1_3 i).1.2.2.2.2.2.2.2) ((eat o1_3 i).2.1) ((eat o1_3 i).2.2.1) ((eat o1_3 i).2.2.2)))
 none) (both (bi (decide (0 ≤ i ∧ i < ((o1_3.length : Nat) : Int))) (twice
 (g20_7 i o0 o0_1 o0_2 o0_3 o1 o1_1 o1_2 o1_3 ((eat o0_3 i).1.1) ((eat o0_3 i).1.2.1) ((eat o0_3 i).1.2.2.1) ((eat o0_3 i).1.2.2.2.1) ((eat o0_3 i).1.2.2.2.2.1) ((eat o0_3 i).1.2.2.2.2.2.1) ((eat o0_3 i).1.2.2.2.2.2.2.1) ((eat o0_3 i).1.2.2.2.2.2.2.2) ((eat o0_3 i).2.1) ((eat o0_3 i).2.2.1) ((eat o0_3 i).2.2.2) ((eat o1_3 i).1.1) ((eat o1_3 i).1.2.1) ((eat o1_3 i).1.2.2.1) ((eat o1_3 i).1.2.2.2.1) ((eat o1_3 i).1.2.2.2.2.1) ((eat o1_3 i).1.2.2.2.2.2.1) ((eat o1_3 i).1.2.2.2.2.2.2.1) ((eat o1_3 i).1.2.2.2.2.2.2.2) ((eat o1_3 i).2.1) ((eat o1_3 i).2.2.1) ((eat o1_3 i).2.2.2)))
 none) (bi (decide (0 ≤ i ∧ i < ((o1_3.length : Nat) : Int)))
 (g20_7 i o0 o0_1 o0_2 o0_3 o1 o1_1 o1_2 o1_3 ((eat o0_3 i).1.1) ((eat o0_3 i).1.2.1) ((eat o0_3 i).1.2.2.1) ((eat o0_3 i).1.2.2.2.1) ((eat o0_3 i).1.2.2.2.2.1) ((eat o0_3 i).1.2.2.2.2.2.1) ((eat o0_3 i).1.2.2.2.2.2.2.1) ((eat o0_3 i).1.2.2.2.2.2.2.2) ((eat o0_3 i).2.1) ((eat o0_3 i).2.2.1) ((eat o0_3 i).2.2.2) ((eat o1_3 i).1.1) ((eat o1_3 i).1.2.1) ((eat o1_3 i).1.2.2.1) ((eat o1_3 i).1.2.2.2.1) ((eat o1_3 i).1.2.2.2.2.1) ((eat o1_3 i).1.2.2.2.2.2.1) ((eat o1_3 i).1.2.2.2.2.2.2.1) ((eat o1_3 i).1.2.2.2.2.2.2.2) ((eat o1_3 i).2.1) ((eat o1_3 i).2.2.1) ((eat o1_3 i).2.2.2))
 none))))) none) (K0 true)

def s_q25_4 {R : Type} := @gs_q25_4 @l_q24 @l_q23 @l_q22 R

abbrev gs_q25_7 (l_q24 : LT_q24) (l_q23 : LT_q23) (l_q22 : LT_q22) {R : Type} (g20_4 : GT_q25_4 R) (g20_7 : GT_q25_7 R) (K0 : Bool -> Option R) (i o0 o0_1 o0_2 : Int) (o0_3 : List Ent) (o1 o1_1 o1_2 : Int) (o1_3 : List Ent) (o2 : Int) (o2_1 : List Int) (o2_2 o2_3 o2_4 o2_5 : Int) (o2_6 o2_7 : List Int) (o2_8 : Int) (o2_9 o2_10 : List Int) (o3 : Int) (o3_1 : List Int) (o3_2 o3_3 o3_4 o3_5 : Int) (o3_6 o3_7 : List Int) (o3_8 : Int) (o3_9 o3_10 : List Int) : Option R :=
 bi (o2 != o3) (K0 false) (bi (o2 == 1) (l_q22 o2_1 o3_1 (fun r1 => bi (!r1) (K0 false) (bi (o2 == 2) (l_q23 o2_2 o2_3 o2_4 o2_5 o2_6 o2_7 o3_2 o3_3 o3_4 o3_5 o3_6 o3_7 (fun r2 => bi (!r2) (K0 false) (l_q24 [(o2_8, (o2_9, o2_10))] [(o3_8, (o3_9, o3_10))] (fun r3 => bi (!r3) (K0 false) (g20_4 (IntKind.i64.wrap (i + 1)) o0 o0_1 o0_2 o0_3 o1 o1_1 o1_2 o1_3)))))
 (l_q24 [(o2_8, (o2_9, o2_10))] [(o3_8, (o3_9, o3_10))] (fun r4 => bi (!r4) (K0 false) (g20_4 (IntKind.i64.wrap (i + 1)) o0 o0_1 o0_2 o0_3 o1 o1_1 o1_2 o1_3)))))) (bi (o2 == 2) (l_q23 o2_2 o2_3 o2_4 o2_5 o2_6 o2_7 o3_2 o3_3 o3_4 o3_5 o3_6 o3_7 (fun r5 => bi (!r5) (K0 false) (l_q24 [(o2_8, (o2_9, o2_10))] [(o3_8, (o3_9, o3_10))] (fun r6 => bi (!r6) (K0 false)
 (g20_4 (IntKind.i64.wrap (i + 1)) o0 o0_1 o0_2 o0_3 o1 o1_1 o1_2 o1_3))))) (l_q24 [(o2_8, (o2_9, o2_10))] [(o3_8, (o3_9, o3_10))] (fun r7 => bi (!r7) (K0 false) (g20_4 (IntKind.i64.wrap (i + 1)) o0 o0_1 o0_2 o0_3 o1 o1_1 o1_2 o1_3)))))

def s_q25_7 {R : Type} := @gs_q25_7 @l_q24 @l_q23 @l_q22 R

abbrev ge_q25 (l_q24 : LT_q24) (l_q23 : LT_q23) (l_q22 : LT_q22) {R : Type} (g20_4 : GT_q25_4 R) (g20_7 : GT_q25_7 R) (K0 : Bool -> Option R) (a a_1 a_2 : Int) (a_3 : List Ent) (b b_1 b_2 : Int) (b_3 : List Ent) : Option R :=
 bi (a != b) (K0 false) (bi (a_1 != b_1) (K0 false) (bi (a_2 != b_2) (K0 false) (bi ((a_3.length : Int) != (b_3.length : Int)) (K0 false) (g20_4 0 a a_1 a_2 a_3 b b_1 b_2 b_3))))

def e_q25 {R : Type} := @ge_q25 @l_q24 @l_q23 @l_q22 R

def run_q25 {R : Type} (K0 : Bool -> Option R) : Nat -> (GT_q25_4 R) × (GT_q25_7 R)
 |0 => (fun _ _ _ _ _ _ _ _ _ => none, fun _ _ _ _ _ _ _ _ _ _ _ _ _ _ _ _ _ _ _ _ _ _ _ _ _ _ _ _ _ _ _ => none)
 |n + 1 => (fun r => (s_q25_4 r.1 r.2 K0, s_q25_7 r.1 r.2 K0)) (run_q25 K0 n)

def l_q25 {R : Type} (a a_1 a_2 : Int) (a_3 : List Ent) (b b_1 b_2 : Int) (b_3 : List Ent) (K0 : Bool -> Option R) : Option R := evl fun fuel => e_q25 (run_q25 K0 fuel).1 (run_q25 K0 fuel).2 K0 a a_1 a_2 a_3 b b_1 b_2 b_3

/-- Entries that are the same but for what plays no part. -/
def relE (x y : Ent) : Prop := x.1.1 = y.1.1 ∧ (x.1.1 = 1 -> x.1.2.1 = y.1.2.1) ∧ (x.1.1 = 2 -> x.1.2.2 = y.1.2.2) ∧ x.2 = y.2
def shortE (x : Ent) : Prop := short x.1.2.1 ∧ short x.1.2.2.2.2.2.2.1 ∧ short x.1.2.2.2.2.2.2.2 ∧ short x.2.2.1 ∧ short x.2.2.2

theorem shortA_one {a : Int} {o v : List Int} (h1 : short o) (h2 : short v) : shortA [(a, (o, v))] = true := by
 unfold shortA
 rw [Bool.and_eq_true, List.all_eq_true]
 exact ⟨by simp, fun e he => by rw [List.mem_singleton.1 he]; simp [h1, h2]⟩

theorem rsameL_go {R : Type} {k K O : Int} {l l' : List Ent} (hl : l.length ≤ 1000000) (he : l.length = l'.length) (hs : ∀ x ∈ l, shortE x) (hr : ∀ i, (h : i < l.length) -> relE l[i] (l'[i]'(by omega))) (K0 : Bool -> Option R) : ∀ (d i : Nat), i + d = l.length →
  Reach (fun m => (run_q25 K0 m).1 (i : Int) k K O l k K O l') (K0 true) := by
 intro d
 induction d with
 |zero =>
  intro i hi
  refine .now fun m => ?_
  dsimp only [run_q25]
  unfold s_q25_4 gs_q25_4 eat
  rw [br_neg (by omega)]
 |succ d ih =>
  intro i hi
  have hil : i < l.length := by omega
  have hil' : i < l'.length := by omega
  obtain ⟨s1, s2, s3, s4, s5⟩ := hs _ (List.getElem_mem hil)
  obtain ⟨r1, r2, r3, r4⟩ := hr i hil
  have b1 : decide (0 ≤ (i : Int) ∧ (i : Int) < ((l.length : Nat) : Int)) = true := decide_eq_true (by omega)
  have b2 : decide (0 ≤ (i : Int) ∧ (i : Int) < ((l'.length : Nat) : Int)) = true := decide_eq_true (by omega)
  refine .step (G := fun m => (run_q25 K0 m).2 (i : Int) k K O l k K O l' l[i].1.1 l[i].1.2.1 l[i].1.2.2.1 l[i].1.2.2.2.1 l[i].1.2.2.2.2.1 l[i].1.2.2.2.2.2.1 l[i].1.2.2.2.2.2.2.1 l[i].1.2.2.2.2.2.2.2 l[i].2.1 l[i].2.2.1 l[i].2.2.2 l'[i].1.1 l'[i].1.2.1 l'[i].1.2.2.1 l'[i].1.2.2.2.1 l'[i].1.2.2.2.2.1 l'[i].1.2.2.2.2.2.1 l'[i].1.2.2.2.2.2.2.1 l'[i].1.2.2.2.2.2.2.2 l'[i].2.1 l'[i].2.2.1 l'[i].2.2.2) (fun m => ?_) (.step (fun m => ?_) (ih (i + 1) (by omega)))
  ·dsimp only [run_q25]
   unfold s_q25_4 gs_q25_4 eat
   rw [br_pos (by omega)]
   simp only [b1, b2, br_tt, both_same, twice_eq, thrice_eq]
   rw [Int.toNat_natCast, getD_of _ hil, getD_of _ hil']
  ·dsimp only [run_q25]
   unfold s_q25_7 gs_q25_7
   rw [wr _ (by omega) (by omega)]
   generalize hx : l[i] = x at *
   generalize hy : l'[i] = y at *
   obtain ⟨⟨q, w, k1, K1, O1, N1, nx, ou⟩, a, o, v⟩ := x
   obtain ⟨⟨q', w', k2, K2, O2, N2, nx', ou'⟩, a', o', v'⟩ := y
   simp only at r1 r2 r3 r4 s1 s2 s3 s4 s5 ⊢
   subst r1
   cases r4
   have ans : ∀ KK : Bool -> Option R, l_q24 [(a, (o, v))] [(a, (o, v))] KK = KK true := fun KK => by
    unfold l_q24
    rw [shortA_one s4 s5, br_tt, decide_eq_true rfl]
   rw [br_ne' rfl]
   by_cases c1 : q = 1
   ·obtain rfl := r2 c1
    rw [br_eq c1, same_eq s1, decide_eq_true rfl]
    show bi (!true) _ _ = _
    rw [show (!true) = false from rfl, br_ff, br_eq' (by omega), ans]
    rfl
   ·rw [br_eq' c1]
    by_cases c2 : q = 2
    ·cases r3 c2
     rw [br_eq c2, sameM_eq s2 s3]
     show bi (!true) _ _ = _
     rw [show (!true) = false from rfl, br_ff, ans]
     rfl
    ·rw [br_eq' c2, ans]
     rfl

theorem rsameL_eq {R : Type} {k K O : Int} {l l' : List Ent} (hl : l.length ≤ 1000000) (he : l.length = l'.length) (hs : ∀ x ∈ l, shortE x) (hr : ∀ i, (h : i < l.length) -> relE l[i] (l'[i]'(by omega))) (K0 : Bool -> Option R) :
  l_q25 k K O l k K O l' K0 = K0 true := by
 refine evl_eq (.same (fun m => ?_) (rsameL_go (k := k) (K := K) (O := O) hl he hs hr K0 l.length 0 (by omega)))
 unfold e_q25 ge_q25
 rw [br_ne' rfl, br_ne' rfl, br_ne' rfl, br_ne' (by omega)]
 rfl

abbrev LT_q26 := {R : Type} -> (List Int) -> ((List Int) -> Option R) -> Option R
/-- slices.Clone[[]int,int] -/
def l_q26 {R : Type} (s : List Int) (K0 : List Int -> Option R) : Option R :=
 bi (decide (s.length * 8 ≤ lim)) (K0 s) none

abbrev LT_q27 := {R : Type} -> Int -> Int -> Int -> (List Ent) -> ((List (Int × (List Int × List Int))) -> Option R) -> Option R
abbrev GT_q27_3 (R : Type) := (List Ent) -> Int -> Int -> (List (Int × (List Int × List Int))) -> Option R
abbrev gs_q27_3 (l_q26 : LT_q26) {R : Type} (g22_3 : GT_q27_3 R) (K0 : (List (Int × (List Int × List Int))) -> Option R) (x7 : List Ent) (x8 x9 : Int) (o0 : List (Int × (List Int × List Int))) : Option R :=
 bi (decide (x9 < x8)) (bi (decide (0 ≤ x9 ∧ x9 < ((x7.length : Nat) : Int))) (l_q26 ((eat x7 x9).2.2.1) (fun r1 => l_q26 ((eat x7 x9).2.2.2) (fun r2 =>
 bi (decide ((o0.length + [((eat x7 x9).2.1, (r1, r2))].length) * 56 ≤ lim)) (g22_3 x7 x8 (IntKind.i64.wrap (x9 + 1)) (o0 ++ [((eat x7 x9).2.1, (r1, r2))])) none))) none) (K0 o0)

def s_q27_3 {R : Type} := @gs_q27_3 @l_q26 R

abbrev ge_q27 (l_q26 : LT_q26) {R : Type} (g22_3 : GT_q27_3 R) (K0 : (List (Int × (List Int × List Int))) -> Option R) (l l_1 l_2 : Int) (l_3 : List Ent) : Option R :=
 g22_3 l_3 (l_3.length : Int) 0 ([] : List (Int × (List Int × List Int)))

def e_q27 {R : Type} := @ge_q27 @l_q26 R

def run_q27 {R : Type} (K0 : (List (Int × (List Int × List Int))) -> Option R) : Nat -> GT_q27_3 R
 |0 => fun _ _ _ _ => none
 |n + 1 => s_q27_3 (run_q27 K0 n) K0

def l_q27 {R : Type} (l l_1 l_2 : Int) (l_3 : List Ent) (K0 : (List (Int × (List Int × List Int))) -> Option R) : Option R := evl fun fuel => e_q27 (run_q27 K0 fuel) K0 l l_1 l_2 l_3

/-- A log's answers. -/
def scrS (l : List Ent) : List (Int × (List Int × List Int)) := l.map fun x => x.2

theorem lscr_go {R : Type} {l : List Ent} (hl : l.length ≤ 1000000) (hx : ∀ x ∈ l, x.2.2.1.length ≤ 1000000 ∧ x.2.2.2.length ≤ 1000000) (K0 : List (Int × (List Int × List Int)) -> Option R) : ∀ (d i : Nat) (o : List (Int × (List Int × List Int))), i + d = l.length -> o.length ≤ i →
  Reach (fun m => run_q27 K0 m l (l.length : Int) (i : Int) o) (K0 (o ++ scrS (l.drop i))) := by
 intro d
 induction d with
 |zero =>
  intro i o hi ho
  refine .now fun m => ?_
  dsimp only [run_q27]
  unfold s_q27_3 gs_q27_3 eat
  rw [br_neg (by omega), List.drop_of_length_le (by omega)]
  simp [scrS]
 |succ d ih =>
  intro i o hi ho
  have hil : i < l.length := by omega
  obtain ⟨h1, h2⟩ := hx _ (List.getElem_mem hil)
  rw [List.drop_eq_getElem_cons hil]
  refine .step (fun m => ?_) ((ih (i + 1) (o ++ [l[i].2]) (by omega) (by rw [List.length_append, List.length_singleton]; omega)).of_eq (by simp only [scrS, List.map_cons, List.append_assoc, List.cons_append, List.nil_append]))
  dsimp only [run_q27]
  unfold s_q27_3 gs_q27_3 eat l_q26
  rw [br_pos (by omega), br_pos (by omega), Int.toNat_natCast, getD_of _ hil, br_pos (by simp only [lim]; omega)]
  try dsimp only
  rw [br_pos (by simp only [lim]; omega)]
  try dsimp only
  rw [br_pos (by simp only [List.length_cons, List.length_nil, lim]; omega), wr _ (by omega) (by omega)]
  rfl

theorem lscr_eq {R : Type} {k K O : Int} {l : List Ent} (hl : l.length ≤ 1000000) (hx : ∀ x ∈ l, x.2.2.1.length ≤ 1000000 ∧ x.2.2.2.length ≤ 1000000) (K0 : List (Int × (List Int × List Int)) -> Option R) : l_q27 k K O l K0 = K0 (scrS l) := by
 unfold l_q27
 exact evl_eq (.same (G := fun m => run_q27 K0 m l (l.length : Int) ((0 : Nat) : Int) []) (fun m => rfl) ((lscr_go hl hx K0 l.length 0 [] (by omega) (by simp)).of_eq (by rw [List.drop_zero, List.nil_append])))

abbrev LT_q28 := {R : Type} -> (List (List Int)) -> (Bool -> (List (List Int)) -> Option R) -> Option R
abbrev GT_q28_2 (R : Type) := Int -> (List (List Int)) -> Option R
abbrev GT_q28_5 (R : Type) := Int -> Int -> (List (List Int)) -> Option R
abbrev GT_q28_9 (R : Type) := Int -> (List (List Int)) -> Option R
abbrev GT_q28_13a (R : Type) := Int -> Nat -> Int -> (List (List Int)) -> Option R
abbrev GT_q28_17 (R : Type) := Int -> (List (List Int)) -> Option R
abbrev GT_q28_13b (R : Type) := Int -> Int -> (List (List Int)) -> Nat -> Nat -> Option R
abbrev GT_q28_20 (R : Type) := Int -> Int -> (List (List Int)) -> Option R
abbrev RT_q28 (R : Type) := GT_q28_2 R × GT_q28_5 R × GT_q28_9 R × GT_q28_13a R × GT_q28_17 R × GT_q28_13b R × GT_q28_20 R
def s_q28_2 {R : Type} (gg : RT_q28 R) (K0 : Bool -> (List (List Int)) -> Option R) (i : Int) (o0 : List (List Int)) : Option R :=
 bi (decide (i < (o0.length : Int))) (gg.2.1 i 0 o0) (gg.2.2.1 0 o0)

def s_q28_5 {R : Type} (gg : RT_q28 R) (K0 : Bool -> (List (List Int)) -> Option R) (i k : Int) (o0 : List (List Int)) : Option R :=
 bi (decide (0 ≤ i ∧ i < ((o0.length : Nat) : Int))) (bi (decide (k < ((o0.getD i.toNat []).length : Int))) (bi (decide (0 ≤ i ∧ i < ((o0.length : Nat) : Int))) (bi (decide (0 ≤ k ∧ k < (((o0.getD i.toNat []).length : Nat) : Int))) (gg.2.1 i (IntKind.i64.wrap (k + 1)) (o0.set i.toNat ((o0.getD i.toNat []).set k.toNat (IntKind.i64.wrap ((-1000) - i))))) none) none)
 (gg.1 (IntKind.i64.wrap (i + 1)) o0)) none

def s_q28_9 {R : Type} (gg : RT_q28 R) (K0 : Bool -> (List (List Int)) -> Option R) (i : Int) (o0 : List (List Int)) : Option R :=
 bi (decide (i < (o0.length : Int))) (bi (decide (0 ≤ i ∧ i < ((o0.length : Nat) : Int))) (gg.2.2.2.1 i i.toNat 0 o0) none) (gg.2.2.2.2.1 0 o0)

def s_q28_13a {R : Type} (gg : RT_q28 R) (K0 : Bool -> (List (List Int)) -> Option R) (i : Int) (x : Nat) (k : Int) (o0 : List (List Int)) : Option R :=
 bi (decide (k < 6)) (bi (decide (((o0.getD x []).length + [IntKind.i64.wrap ((-5000) - i)].length) * 8 ≤ lim)) (gg.2.2.2.2.2.1 i (IntKind.i64.wrap (k + 1)) o0 x ((o0.getD x []).length + [IntKind.i64.wrap ((-5000) - i)].length)) none) (gg.2.2.1 (IntKind.i64.wrap (i + 1)) o0)

def s_q28_17 {R : Type} (gg : RT_q28 R) (K0 : Bool -> (List (List Int)) -> Option R) (i : Int) (o0 : List (List Int)) : Option R :=
 bi (decide (i < (o0.length : Int))) (gg.2.2.2.2.2.2 i 0 o0) (K0 true o0)

def s_q28_13b {R : Type} (gg : RT_q28 R) (K0 : Bool -> (List (List Int)) -> Option R) (i k : Int) (o0 : List (List Int)) (o1 o1_1 : Nat) : Option R :=
 bi (decide (k < 6)) (bi (decide ((o1_1 + [IntKind.i64.wrap ((-5000) - i)].length) * 8 ≤ lim)) (gg.2.2.2.2.2.1 i (IntKind.i64.wrap (k + 1)) o0 o1 (o1_1 + [IntKind.i64.wrap ((-5000) - i)].length)) none) (gg.2.2.1 (IntKind.i64.wrap (i + 1)) o0)

def s_q28_20 {R : Type} (gg : RT_q28 R) (K0 : Bool -> (List (List Int)) -> Option R) (i k : Int) (o0 : List (List Int)) : Option R :=
 bi (decide (0 ≤ i ∧ i < ((o0.length : Nat) : Int))) (bi (decide (k < ((o0.getD i.toNat []).length : Int))) (bi (decide (0 ≤ i ∧ i < ((o0.length : Nat) : Int))) (bi (decide (0 ≤ k ∧ k < (((o0.getD i.toNat []).length : Nat) : Int))) (bi (((o0.getD i.toNat []).getD k.toNat 0) != (IntKind.i64.wrap ((-1000) - i))) (K0 false o0) (gg.2.2.2.2.2.2 i (IntKind.i64.wrap (k + 1)) o0)) none) none)
 (gg.2.2.2.2.1 (IntKind.i64.wrap (i + 1)) o0)) none

def e_q28 {R : Type} (gg : RT_q28 R) (K0 : Bool -> (List (List Int)) -> Option R) (o0 : List (List Int)) : Option R :=
 gg.1 0 o0

def run_q28 {R : Type} (K0 : Bool -> (List (List Int)) -> Option R) : Nat -> (GT_q28_2 R) × (GT_q28_5 R) × (GT_q28_9 R) × (GT_q28_13a R) × (GT_q28_17 R) × (GT_q28_13b R) × (GT_q28_20 R)
 |0 => (fun _ _ => none, fun _ _ _ => none, fun _ _ => none, fun _ _ _ _ => none, fun _ _ => none, fun _ _ _ _ _ => none, fun _ _ _ => none)
 |n + 1 => (fun r => (s_q28_2 r K0, s_q28_5 r K0, s_q28_9 r K0, s_q28_13a r K0, s_q28_17 r K0, s_q28_13b r K0, s_q28_20 r K0)) (run_q28 K0 n)

/-- Each row written full with a mark of its own, from a row on. -/
def markF (i : Nat) (o : List (List Int)) : List (List Int) := o.mapIdx fun j x => if i ≤ j then List.replicate x.length (-1000 - (j : Int)) else x

theorem markF_len (i : Nat) (o : List (List Int)) : (markF i o).length = o.length := by simp [markF]
theorem markF_get {i j : Nat} {o : List (List Int)} (h : j < o.length) : (markF i o).getD j [] = if i ≤ j then List.replicate (o.getD j []).length (-1000 - (j : Int)) else o.getD j [] := by
 unfold markF
 rw [getD_of [] (by simpa using h), List.getElem_mapIdx, getD_of [] h]

theorem rows_ext {o p : List (List Int)} (hl : o.length = p.length) (h : ∀ j, j < o.length -> o.getD j [] = p.getD j []) : o = p := by
 refine List.ext_getElem hl fun j h1 h2 => ?_
 have := h j h1
 rwa [getD_of [] h1, getD_of [] h2] at this

theorem getD_setL (l : List (List Int)) (i t : Nat) (x : List Int) : (l.set i x).getD t [] = if i = t ∧ i < l.length then x else l.getD t [] := by
 rw [List.getD_eq_getElem?_getD, List.getElem?_set, List.getD_eq_getElem?_getD]
 by_cases h : i = t
 ·subst h
  by_cases h2 : i < l.length
  ·simp [h2]
  ·simp [h2]
 ·simp [h]

def apOk (o : List (List Int)) : Prop := short o ∧ ∀ x ∈ o, x.length ≤ 17592186044400
instance (o : List (List Int)) : Decidable (apOk o) := by unfold apOk; infer_instance

theorem apOk_set {o : List (List Int)} {i : Nat} {x : List Int} (h : apOk o) (hx : x.length ≤ 17592186044400) : apOk (o.set i x) := by
 refine ⟨by have := h.1; unfold short at *; simpa using this, fun y hy => ?_⟩
 rcases List.mem_or_eq_of_mem_set hy with h1 | rfl
 ·exact h.2 y h1
 ·exact hx

theorem apOk_row {o : List (List Int)} (h : apOk o) {j : Nat} (hj : j < o.length) : (o.getD j []).length ≤ 17592186044400 := by
 rw [getD_of [] hj]
 exact h.2 _ (List.getElem_mem hj)

def l_q28 {R : Type} (o0 : List (List Int)) (K0 : Bool -> (List (List Int)) -> Option R) : Option R := bi (decide (apOk o0)) (K0 true (markF 0 o0)) none

section
variable {R : Type} (K0 : Bool -> (List (List Int)) -> Option R) {v : Option R}

theorem ap_in {o : List (List Int)} {i : Nat} (hi : i < o.length) : ∀ (e k : Nat) (o' : List (List Int)), o'.length = o.length -> apOk o' -> k + e = (o'.getD i []).length →
  Reach (fun m => (run_q28 K0 m).1 ((i : Int) + 1) (o'.set i ((o'.getD i []).take k ++ List.replicate e (-1000 - (i : Int))))) v -> Reach (fun m => (run_q28 K0 m).2.1 (i : Int) (k : Int) o') v := by
 intro e
 induction e with
 |zero =>
  intro k o' hl hok hk h
  have hs : o'.length < 4611686018427387904 := hok.1
  refine .step (fun m => ?_) h
  dsimp only [run_q28]
  unfold s_q28_5
  have e1 : o'.set i ((o'.getD i []).take k ++ List.replicate 0 (-1000 - (i : Int))) = o' := by
   refine rows_ext (by simp) fun j hj => ?_
   rw [getD_setL]
   split
   ·rename_i hc
    rw [← hc.1, List.take_of_length_le (by omega)]
    simp
   ·rfl
  rw [e1, br_pos (by omega), Int.toNat_natCast, br_neg (by omega), wr _ (by omega) (by omega)]
 |succ e ih =>
  intro k o' hl hok hk h
  have hs : o'.length < 4611686018427387904 := hok.1
  have hr := apOk_row hok (show i < o'.length by omega)
  refine .step (fun m => ?_) (ih (k + 1) (o'.set i ((o'.getD i []).set k (-1000 - (i : Int)))) (by simpa using hl) (apOk_set hok (by simpa using hr)) ?_ ?_)
  ·dsimp only [run_q28]
   unfold s_q28_5
   rw [br_pos (by omega), Int.toNat_natCast, br_pos (by omega), br_pos (by omega), br_pos (by omega), wr _ (by omega) (by omega), wr _ (by omega) (by omega), Int.toNat_natCast]
   rfl
  ·rw [getD_setL, if_pos ⟨rfl, by omega⟩, List.length_set]
   omega
  ·rw [getD_setL, if_pos ⟨rfl, by omega⟩, List.set_set]
   have e2 : ((o'.getD i []).set k (-1000 - (i : Int))).take (k + 1) ++ List.replicate e (-1000 - (i : Int)) = (o'.getD i []).take k ++ List.replicate (e + 1) (-1000 - (i : Int)) := by
    have hk2 : k < (o'.getD i []).length := by omega
    rw [List.replicate_succ, List.take_add_one, List.take_set_of_le (Nat.le_refl k), List.append_assoc]
    congr 1
    have e3 : ((o'.getD i []).set k (-1000 - (i : Int)))[k]? = some (-1000 - (i : Int)) := by rw [List.getElem?_set, if_pos rfl, if_pos hk2]
    rw [e3]
    rfl
   rw [e2]
   exact h

theorem ap_mark : ∀ (d i : Nat) (o : List (List Int)), i + d = o.length -> apOk o -> Reach (fun m => (run_q28 K0 m).2.2.1 0 (markF i o)) v -> Reach (fun m => (run_q28 K0 m).1 (i : Int) o) v := by
 intro d
 induction d with
 |zero =>
  intro i o hi hok h
  have hs : o.length < 4611686018427387904 := hok.1
  refine .step (fun m => ?_) h
  dsimp only [run_q28]
  unfold s_q28_2
  have e1 : markF i o = o := by
   refine rows_ext (markF_len i o) fun j hj => ?_
   rw [markF_len] at hj
   rw [markF_get hj, if_neg (by omega)]
  rw [br_neg (by omega), e1]
 |succ d ih =>
  intro i o hi hok h
  have hs : o.length < 4611686018427387904 := hok.1
  have hio : i < o.length := by omega
  have hr := apOk_row hok hio
  refine .step (fun m => ?_) (ap_in K0 hio (o.getD i []).length 0 o rfl hok (by omega) ?_)
  ·dsimp only [run_q28]
   unfold s_q28_2
   rw [br_pos (by omega)]
   rfl
  ·have e1 : (o.getD i []).take 0 ++ List.replicate (o.getD i []).length (-1000 - (i : Int)) = List.replicate (o.getD i []).length (-1000 - (i : Int)) := rfl
   rw [e1]
   have := ih (i + 1) (o.set i (List.replicate (o.getD i []).length (-1000 - (i : Int)))) (by simp; omega) (apOk_set hok (by simpa using hr)) ?_
   ·exact this
   ·have e2 : markF (i + 1) (o.set i (List.replicate (o.getD i []).length (-1000 - (i : Int)))) = markF i o := by
     refine rows_ext (by simp [markF_len]) fun j hj => ?_
     rw [markF_len, List.length_set] at hj
     rw [markF_get (by simpa using hj), markF_get hj, getD_setL]
     by_cases c1 : i = j
     ·subst c1
      rw [if_neg (by omega), if_pos ⟨rfl, hio⟩, if_pos (Nat.le_refl _)]
     ·rw [if_neg (show ¬ (i = j ∧ i < o.length) from fun h => c1 h.1)]
      by_cases c2 : i ≤ j
      ·rw [if_pos c2, if_pos (by omega)]
      ·rw [if_neg c2, if_neg (by omega)]
    rw [e2]
    exact h

theorem ap_grow {o : List (List Int)} {i : Nat} (hi : i < o.length) (hok : apOk o) : ∀ (e k n : Nat), k + e = 6 -> n ≤ 17592186044400 + k -> 1 ≤ k -> Reach (fun m => (run_q28 K0 m).2.2.1 ((i : Int) + 1) o) v →
  Reach (fun m => (run_q28 K0 m).2.2.2.2.2.1 (i : Int) (k : Int) o i n) v := by
 intro e
 have hs : o.length < 4611686018427387904 := hok.1
 induction e with
 |zero =>
  intro k n hk hn h1 h
  refine .step (fun m => ?_) h
  dsimp only [run_q28]
  unfold s_q28_13b
  rw [br_neg (by omega), wr _ (by omega) (by omega)]
 |succ e ih =>
  intro k n hk hn h1 h
  refine .step (fun m => ?_) (ih (k + 1) (n + 1) (by omega) (by omega) (by omega) h)
  dsimp only [run_q28]
  unfold s_q28_13b
  rw [br_pos (by omega), List.length_singleton, br_pos (by simp [lim]; omega), wr _ (by omega) (by omega)]
  rfl

theorem ap_ext {o : List (List Int)} (hok : apOk o) : ∀ (d i : Nat), i + d = o.length -> Reach (fun m => (run_q28 K0 m).2.2.2.2.1 0 o) v -> Reach (fun m => (run_q28 K0 m).2.2.1 (i : Int) o) v := by
 intro d
 have hs : o.length < 4611686018427387904 := hok.1
 induction d with
 |zero =>
  intro i hi h
  refine .step (fun m => ?_) h
  dsimp only [run_q28]
  unfold s_q28_9
  rw [br_neg (by omega)]
 |succ d ih =>
  intro i hi h
  have hr := apOk_row hok (show i < o.length by omega)
  have h2 := ih (i + 1) (by omega) h
  refine .step (G := fun m => (run_q28 K0 m).2.2.2.1 (i : Int) i 0 o) (fun m => ?_) (.step (fun m => ?_) (ap_grow K0 (show i < o.length by omega) hok 5 1 ((o.getD i []).length + 1) (by omega) (by omega) (by omega) h2))
  ·dsimp only [run_q28]
   unfold s_q28_9
   rw [br_pos (by omega), br_pos (by omega), Int.toNat_natCast]
  ·dsimp only [run_q28]
   unfold s_q28_13a
   rw [br_pos (by omega), List.length_singleton, br_pos (by show ((o.getD i []).length + 1) * 8 ≤ 140737488355328; omega), wr _ (by omega) (by omega)]
   rfl

theorem ap_row {o : List (List Int)} (hok : apOk o) {i : Nat} (hi : i < o.length) (hm : ∀ x ∈ o.getD i [], x = -1000 - (i : Int)) : ∀ (e k : Nat), k + e = (o.getD i []).length -> Reach (fun m => (run_q28 K0 m).2.2.2.2.1 ((i : Int) + 1) o) v →
  Reach (fun m => (run_q28 K0 m).2.2.2.2.2.2 (i : Int) (k : Int) o) v := by
 intro e
 have hs : o.length < 4611686018427387904 := hok.1
 have hr := apOk_row hok hi
 induction e with
 |zero =>
  intro k hk h
  refine .step (fun m => ?_) h
  dsimp only [run_q28]
  unfold s_q28_20
  rw [br_pos (by omega), Int.toNat_natCast, br_neg (by omega), wr _ (by omega) (by omega)]
 |succ e ih =>
  intro k hk h
  refine .step (fun m => ?_) (ih (k + 1) (by omega) h)
  dsimp only [run_q28]
  unfold s_q28_20
  have hx : (o.getD i []).getD k 0 = -1000 - (i : Int) := by
   rw [getD_of 0 (by omega)]
   exact hm _ (List.getElem_mem _)
  rw [br_pos (by omega), Int.toNat_natCast, br_pos (by omega), br_pos (by omega), br_pos (by omega), Int.toNat_natCast, hx, wr (-1000 - (i : Int)) (by omega) (by omega), br_ne' rfl, wr _ (by omega) (by omega)]
  rfl

theorem ap_look {o : List (List Int)} (hok : apOk o) (hm : ∀ i, i < o.length -> ∀ x ∈ o.getD i [], x = -1000 - (i : Int)) : ∀ (d i : Nat), i + d = o.length -> Reach (fun m => (run_q28 K0 m).2.2.2.2.1 (i : Int) o) (K0 true o) := by
 intro d
 have hs : o.length < 4611686018427387904 := hok.1
 induction d with
 |zero =>
  intro i hi
  refine .now fun m => ?_
  dsimp only [run_q28]
  unfold s_q28_17
  rw [br_neg (by omega)]
 |succ d ih =>
  intro i hi
  refine .step (fun m => ?_) (ap_row K0 hok (show i < o.length by omega) (hm i (by omega)) (o.getD i []).length 0 (by omega) (ih (i + 1) (by omega)))
  dsimp only [run_q28]
  unfold s_q28_17
  rw [br_pos (by omega)]
  rfl
end

theorem ok_q28 {R : Type} (o0 : List (List Int)) (K0 : Bool -> (List (List Int)) -> Option R) {r : R} (h : l_q28 o0 K0 = some r) : ∃ fuel, e_q28 (run_q28 K0 fuel) K0 o0 = some r := by
 unfold l_q28 at h
 rcases bi_some h with ⟨hs, h⟩ | ⟨_, h⟩
 ·have hok : apOk o0 := of_decide_eq_true hs
  rw [← h]
  unfold e_q28
  have hok2 : apOk (markF 0 o0) := by
   refine ⟨by unfold short; rw [markF_len]; exact hok.1, fun x hx => ?_⟩
   obtain ⟨j, hj, rfl⟩ := List.getElem_of_mem hx
   rw [markF_len] at hj
   rw [← getD_of [] (by rw [markF_len]; exact hj), markF_get hj, if_pos (Nat.zero_le _), List.length_replicate]
   exact apOk_row hok hj
  have hm : ∀ i, i < (markF 0 o0).length -> ∀ x ∈ (markF 0 o0).getD i [], x = -1000 - (i : Int) := by
   intro i hi x hx
   rw [markF_len] at hi
   rw [markF_get hi, if_pos (Nat.zero_le _)] at hx
   exact List.eq_of_mem_replicate hx
  exact (ap_mark K0 o0.length 0 o0 (by omega) hok (ap_ext K0 hok2 (markF 0 o0).length 0 (by omega) (ap_look K0 hok2 hm (markF 0 o0).length 0 (by omega)))).get
 ·cases h

theorem apart_eq {R : Type} {o0 : List (List Int)} (h : apOk o0) (K0 : Bool -> (List (List Int)) -> Option R) : l_q28 o0 K0 = K0 true (markF 0 o0) := by
 unfold l_q28
 rw [br_pos h]

abbrev LT_q29 := {R : Type} -> (List Int) -> (Bool -> Option R) -> Option R
abbrev GT_q29_6 (R : Type) := (List Int) -> Int -> Int -> (List Int) -> Int -> Int -> Int -> (List Ent) -> Option R
abbrev GT_q29_15 (R : Type) := Int -> Int -> Int -> Int -> (List Ent) -> Int -> Int -> Int -> (List Ent) -> (List (Int × (List Int × List Int))) -> Nat -> (List (List Int)) -> Option R
abbrev GT_q29_22 (R : Type) := Int -> Int -> Int -> Int -> (List Ent) -> Nat -> (List (List Int)) -> Option R
abbrev gs_q29_6 (l_q1m : LT_q1m) (l_q17 : LT_q17) (l_q27 : LT_q27) (l_q25 : LT_q25) (l_q1l : LT_q1l) (l_q21 : LT_q21) (l_q28 : LT_q28) {R : Type} (g7_6 : GT_q29_6 R) (g7_15 : GT_q29_15 R) (g7_22 : GT_q29_22 R) (K0 : Bool -> Option R) (b : List Int) (e i : Int) (o0 : List Int) (o1 o1_1 o1_2 : Int) (o2 : List Ent) : Option R :=
 bi (decide (i < (o0.length : Int))) (bi (decide (0 ≤ i ∧ i < ((o0.length : Nat) : Int))) (g7_6 b e (IntKind.i64.wrap (i + 1)) (o0.set i.toNat 120) o1 o1_1 o1_2 o2) none) (l_q21 b (fun r8 r9 r10 r11 r12 r13 => l_q1l e (fun r14 => bi (r14 != r11) (K0 false) (l_q25 o1 o1_1 o1_2 o2 r8 r9 r10 r13 (fun r15 => bi (!r15) (K0 false) (l_q27 o1 o1_1 o1_2 o2
 (fun r16 => g7_15 0 o1 o1_1 o1_2 o2 r8 r9 r10 r13 r16 0 ([] : List (List Int)))))))))

def s_q29_6 {R : Type} := @gs_q29_6 @l_q1m @l_q17 @l_q27 @l_q25 @l_q1l @l_q21 @l_q28 R

abbrev gs_q29_15 (l_q1m : LT_q1m) (l_q17 : LT_q17) (l_q27 : LT_q27) (l_q25 : LT_q25) (l_q1l : LT_q1l) (l_q21 : LT_q21) (l_q28 : LT_q28) {R : Type} (g7_6 : GT_q29_6 R) (g7_15 : GT_q29_15 R) (g7_22 : GT_q29_22 R) (K0 : Bool -> Option R) (i o0 o0_1 o0_2 : Int) (o1 : List Ent) (o2 o2_1 o2_2 : Int) (o3 : List Ent) (o4 : List (Int × (List Int × List Int))) (o4_1 : Nat) (o5 : List (List Int)) : Option R :=
 bi (decide (i < (o4.length : Int))) (bi (decide (0 ≤ i ∧ i < ((o4.length : Nat) : Int))) (bi (Nat.ble o4_1 i.toNat) (bi (decide (0 ≤ i ∧ i < ((o4.length : Nat) : Int))) (bi (Nat.ble o4_1 i.toNat) (bi ((Nat.beq i.toNat o4_1 && (Nat.beq i.toNat o4_1 && true)) && Nat.blt o4_1 o4.length)
 (bi (decide ((o5.length + [((o4.getD o4_1 (0, ([], []))).2).1, ((o4.getD o4_1 (0, ([], []))).2).2].length) * 24 ≤ lim)) (g7_15 (IntKind.i64.wrap (i + 1)) o0 o0_1 o0_2 o1 o2 o2_1 o2_2 o3 o4 (o4_1 + 1) (o5 ++ [((o4.getD o4_1 (0, ([], []))).2).1, ((o4.getD o4_1 (0, ([], []))).2).2])) none) none) none) none) none) none) (l_q28 o5 (fun r17 r18 => bi (!r17) (K0 false)
 (l_q25 o0 o0_1 o0_2 o1 o2 o2_1 o2_2 o3 (fun r19 => bi (!r19) (K0 false) (g7_22 0 o0 o0_1 o0_2 o1 0 ([] : List (List Int)))))))

def s_q29_15 {R : Type} := @gs_q29_15 @l_q1m @l_q17 @l_q27 @l_q25 @l_q1l @l_q21 @l_q28 R

abbrev gs_q29_22 (l_q1m : LT_q1m) (l_q17 : LT_q17) (l_q27 : LT_q27) (l_q25 : LT_q25) (l_q1l : LT_q1l) (l_q21 : LT_q21) (l_q28 : LT_q28) {R : Type} (g7_6 : GT_q29_6 R) (g7_15 : GT_q29_15 R) (g7_22 : GT_q29_22 R) (K0 : Bool -> Option R) (i o0 o0_1 o0_2 : Int) (o1 : List Ent) (o1_1 : Nat) (o2 : List (List Int)) : Option R :=
 bi (decide (i < (o1.length : Int))) (bi (decide (0 ≤ i ∧ i < ((o1.length : Nat) : Int))) (bi (Nat.ble o1_1 i.toNat) (bi ((Nat.beq i.toNat o1_1 && (Nat.beq i.toNat o1_1 && (Nat.beq i.toNat o1_1 && (Nat.beq i.toNat o1_1 && (Nat.beq i.toNat o1_1 && true))))) && Nat.blt o1_1 o1.length)
 (bi (decide ((o2.length + [(((o1.getD o1_1 ((0, ([], (0, (0, (0, (0, ([], []))))))), (0, ([], [])))).2).2).1, (((o1.getD o1_1 ((0, ([], (0, (0, (0, (0, ([], []))))))), (0, ([], [])))).2).2).2, (((o1.getD o1_1 ((0, ([], (0, (0, (0, (0, ([], []))))))), (0, ([], [])))).1).2).1, ((((((((o1.getD o1_1 ((0, ([], (0, (0, (0, (0, ([], []))))))), (0, ([], [])))).1).2).2).2).2).2).2).1, ((((((((o1.getD o1_1 ((0, ([], (0, (0, (0, (0, ([], []))))))), (0, ([], [])))).1).2).2).2).2).2).2).2].length) * 24 ≤ lim))
 (g7_22 (IntKind.i64.wrap (i + 1)) o0 o0_1 o0_2 o1 (o1_1 + 1) (o2 ++ [(((o1.getD o1_1 ((0, ([], (0, (0, (0, (0, ([], []))))))), (0, ([], [])))).2).2).1, (((o1.getD o1_1 ((0, ([], (0, (0, (0, (0, ([], []))))))), (0, ([], [])))).2).2).2, (((o1.getD o1_1 ((0, ([], (0, (0, (0, (0, ([], []))))))), (0, ([], [])))).1).2).1, ((((((((o1.getD o1_1 ((0, ([], (0, (0, (0, (0, ([], []))))))), (0, ([], [])))).1).2).2).2).2).2).2).1, ((((((((o1.getD o1_1 ((0, ([], (0, (0, (0, (0, ([], []))))))), (0, ([], [])))).1).2).2).2).2).2).2).2]))
 none) none) none) none) (l_q28 o2 (fun r20 r21 => bi r20 (l_q1m (fun r22 => K0 r22)) (K0 false)))

def s_q29_22 {R : Type} := @gs_q29_22 @l_q1m @l_q17 @l_q27 @l_q25 @l_q1l @l_q21 @l_q28 R

abbrev ge_q29 (l_q1m : LT_q1m) (l_q17 : LT_q17) (l_q27 : LT_q27) (l_q25 : LT_q25) (l_q1l : LT_q1l) (l_q21 : LT_q21) (l_q28 : LT_q28) {R : Type} (g7_6 : GT_q29_6 R) (g7_15 : GT_q29_15 R) (g7_22 : GT_q29_22 R) (K0 : Bool -> Option R) (b : List Int) : Option R :=
 bi (decide ((b.length : Int) > 20000)) (l_q1m (fun r1 => K0 r1)) (bi (decide ((([] : List Int).length + b.length) * 1 ≤ lim)) (l_q17 (([] : List Int) ++ b) (fun r2 r3 r4 r5 r6 r7 => g7_6 b r5 0 (([] : List Int) ++ b) r2 r3 r4 r7)) none)

def e_q29 {R : Type} := @ge_q29 @l_q1m @l_q17 @l_q27 @l_q25 @l_q1l @l_q21 @l_q28 R

def run_q29 {R : Type} (K0 : Bool -> Option R) : Nat -> (GT_q29_6 R) × (GT_q29_15 R) × (GT_q29_22 R)
 |0 => (fun _ _ _ _ _ _ _ _ => none, fun _ _ _ _ _ _ _ _ _ _ _ _ => none, fun _ _ _ _ _ _ _ => none)
 |n + 1 => (fun r => (s_q29_6 r.1 r.2.1 r.2.2 K0, s_q29_15 r.1 r.2.1 r.2.2 K0, s_q29_22 r.1 r.2.1 r.2.2 K0)) (run_q29 K0 n)

def l_q29 {R : Type} (b : List Int) (K0 : Bool -> Option R) : Option R := evl fun fuel => e_q29 (run_q29 K0 fuel).1 (run_q29 K0 fuel).2.1 (run_q29 K0 fuel).2.2 K0 b

/-- The rows of an entry are no longer than this. -/
def lenE (x : Ent) : Prop := x.1.2.1.length ≤ 17592186044400 ∧ x.1.2.2.2.2.2.2.1.length ≤ 17592186044400 ∧ x.1.2.2.2.2.2.2.2.length ≤ 17592186044400 ∧ x.2.2.1.length ≤ 1000000 ∧ x.2.2.2.length ≤ 1000000

theorem lenE_short {x : Ent} (h : lenE x) : shortE x := by
 obtain ⟨h1, h2, h3, h4, h5⟩ := h
 refine ⟨?_, ?_, ?_, ?_, ?_⟩ <;> (unfold short; omega)

theorem hypImp_len (b : List Int) (a : Nat) : (hypImp b a).nx.length ≤ 17592186044400 ∧ (hypImp b a).ou.length ≤ 17592186044400 := by
 unfold hypImp impS
 split
 ·exact ⟨Nat.zero_le _, Nat.zero_le _⟩
 ·cases hr : readS ((b.drop a).take (hypEnd b a).toNat) with
  |inl f => exact ⟨Nat.zero_le _, Nat.zero_le _⟩
  |inr m =>
   have F := (read_there hr).1
   have h1 := F.fN
   have h2 := F.fK
   have h3 := F.fnx
   have h4 := mulK ⟨h1, h2⟩
   refine ⟨by show m.2.2.2.2.1.length ≤ _; omega, ?_⟩
   show m.2.2.2.2.2.length ≤ _
   rcases F.fk with hk | hk
   ·have := F.fou1 hk
    omega
   ·have := F.fou2 hk
    omega

theorem parsS_len {k K O : Int} {b : List Int} (hs : b.length ≤ 20000) : ∀ (n a : Nat) (acc l : List Ent), parsS k K O b n a acc = .inr l -> a ≤ b.length -> acc.length ≤ a -> (∀ x ∈ acc, lenE x) -> l.length ≤ b.length ∧ ∀ x ∈ l, lenE x
 |0, a, acc, l, h, ha, hl, hx => by
  obtain rfl : acc = l := Sum.inr.inj h
  exact ⟨by omega, hx⟩
 |n + 1, a, acc, l, h, ha, hl, hx => by
  have sn : ([] : List Int).length ≤ 17592186044400 := Nat.zero_le _
  have sn2 : ([] : List Int).length ≤ 1000000 := Nat.zero_le _
  unfold parsS at h
  by_cases hab : a < b.length
  ·rw [if_pos hab] at h
   have ha1 : a + 1 ≤ b.length := hab
   by_cases h63 : isS [63] b (.inr a) = true
   ·have eR : isR [63] b (.inr a) = .inr (a + 1) := if_pos (by simpa [isS] using h63)
    rw [if_pos h63, eR] at h
    have hok : okR b (memE b (.inr (a + 1))) := memE_ok (r := .inr (a + 1)) ha1
    have hw : (roV (memW b (.inr (a + 1)))).length ≤ b.length := row_len (r := .inr (a + 1)) ha1
    have ho : (roV (memO b (.inr (a + 1)))).length ≤ b.length := row_len (wnt_ok (row_ok (r := .inr (a + 1)) ha1))
    cases hE : memE b (.inr (a + 1)) with
    |inl f => rw [hE] at h; cases h
    |inr c =>
     rw [hE] at h hok
     have hcb : c ≤ b.length := hok
     obtain ⟨a0, e0, hc⟩ := memE_gt hE
     obtain rfl : a + 1 = a0 := Sum.inr.inj e0
     dsimp only at h
     split at h
     ·cases h
     ·refine parsS_len hs n c _ l h hcb (by rw [List.length_append, List.length_singleton]; omega) fun x hxm => ?_
      rcases List.mem_append.1 hxm with hxm | hxm
      ·exact hx x hxm
      ·rw [List.mem_singleton.1 hxm]
       exact ⟨by show (roV (memW b (.inr (a + 1)))).length ≤ _; omega, sn, sn, by show (roV (memO b (.inr (a + 1)))).length ≤ _; omega, sn2⟩
   ·rw [if_neg h63, isR_no h63] at h
    by_cases h33 : isS [33] b (.inr a) = true
    ·have eR : isR [33] b (.inr a) = .inr (a + 1) := if_pos (by simpa [isS] using h33)
     rw [if_pos h33, eR] at h
     have ok1 : okR b (wnt [10] b (.inr (a + 1))) := wnt_ok (r := .inr (a + 1)) ha1
     cases hW : wnt [10] b (.inr (a + 1)) with
     |inl f => rw [hW] at h; cases h
     |inr d =>
      rw [hW] at h ok1
      have hdb : d ≤ b.length := ok1
      obtain ⟨d0, e0, ed⟩ := wnt_gt hW
      obtain rfl : a + 1 = d0 := Sum.inr.inj e0
      simp only [List.length_cons, List.length_nil] at ed
      dsimp only at h
      by_cases hbad : hypEnd b d < 0 ∨ (hypImp b d).e ≠ 0
      ·rw [if_pos hbad] at h
       cases h
      ·rw [if_neg hbad] at h
       have hzok := hypZ_ok (b := b) (a := d) ⟨by omega, hdb⟩
       obtain ⟨s1, s2⟩ := hypImp_len b d
       have hlen : (if hypY b d = true then ([] : List Int) else roV (hypN b d)).length ≤ b.length := by
        split
        ·simp
        ·exact row_len (wnt_ok (is_ok (wnt_ok (hypM_ok ⟨by omega, hdb⟩))))
       cases hZ : hypZ b d with
       |inl f => rw [hZ] at h; cases h
       |inr c =>
        rw [hZ] at h hzok
        have hcb : c ≤ b.length := hzok
        have hgt := hypZ_gt hZ
        dsimp only at h
        generalize tstF k K O (hypImp b d).k (hypImp b d).K (hypImp b d).O (hypImp b d).N (hypImp b d).nx (hypImp b d).ou (if hypY b d = true then 2 else 3) [] (if hypY b d = true then [] else roV (hypN b d)) = T at h
        by_cases hT : T ≠ 0
        ·rw [if_pos hT] at h
         cases h
        ·rw [if_neg hT] at h
         refine parsS_len hs n c _ l h hcb (by rw [List.length_append, List.length_singleton]; omega) fun x hxm => ?_
         rcases List.mem_append.1 hxm with hxm | hxm
         ·exact hx x hxm
         ·rw [List.mem_singleton.1 hxm]
          exact ⟨sn, s1, s2, sn2, by show (if hypY b d = true then ([] : List Int) else roV (hypN b d)).length ≤ _; omega⟩
    ·rw [if_neg h33] at h
     cases h
  ·rw [if_neg hab] at h
   obtain rfl : acc = l := Sum.inr.inj h
   exact ⟨by omega, hx⟩

theorem parseT_len {b : List Int} (hb : b.length ≤ 20000) : (parseT b).2.2.2.2.2.length ≤ b.length ∧ ∀ x ∈ (parseT b).2.2.2.2.2, lenE x := by
 unfold parseT
 by_cases h1 : (b.length : Int) > 16777216
 ·rw [if_pos h1]
  exact ⟨by simp, by simp⟩
 rw [if_neg h1]
 by_cases h2 : nentS b > 65536
 ·rw [if_pos h2]
  exact ⟨by simp, by simp⟩
 rw [if_neg h2]
 have hok := firstL_ok (b := b) (r := .inr 0) (Nat.zero_le _)
 cases hr : (firstL b (.inr 0)).2.2.2 with
 |inl f => exact ⟨by simp, by simp⟩
 |inr a =>
  rw [hr] at hok
  dsimp only
  cases hp : parsS (firstL b (.inr 0)).1 (firstL b (.inr 0)).2.1 (firstL b (.inr 0)).2.2.1 b (b.length + 1) a [] with
  |inl f => exact ⟨by simp, by simp⟩
  |inr l => exact parsS_len hb _ _ _ _ hp hok (by simp) (by simp)

theorem ble_self (n : Nat) : Nat.ble n n = true := Nat.ble_eq_true_of_le (Nat.le_refl n)
theorem beq_self (n : Nat) : Nat.beq n n = true := Nat.beq_refl n
theorem blt_of {n m : Nat} (h : n < m) : Nat.blt n m = true := Nat.ble_eq_true_of_le h

/-- Rows that may be written apart. -/
theorem apOk_of {o : List (List Int)} (h : o.length ≤ 1000000) (hx : ∀ x ∈ o, x.length ≤ 17592186044400) : apOk o := ⟨by unfold short; omega, hx⟩

theorem lown_ent {R : Type} {k K O : Int} {l : List Ent} (hl : l.length ≤ 20000) (hx : ∀ x ∈ l, lenE x) (K0 : Bool -> Option R) : ∀ (d i : Nat) (acc : List (List Int)), i + d = l.length -> acc.length = 5 * i -> (∀ x ∈ acc, x.length ≤ 17592186044400) →
  Reach (fun m => (run_q29 K0 m).2.2 (i : Int) k K O l i acc) (K0 true) := by
 intro d
 induction d with
 |zero =>
  intro i acc hi ha hb
  refine .now fun m => ?_
  dsimp only [run_q29]
  unfold s_q29_22 gs_q29_22
  rw [br_neg (by omega), apart_eq (apOk_of (by omega) hb), br_tt, live27]
 |succ d ih =>
  intro i acc hi ha hb
  have hil : i < l.length := by omega
  obtain ⟨s1, s2, s3, s4, s5⟩ := hx _ (List.getElem_mem hil)
  refine .step (fun m => ?_) (ih (i + 1) (acc ++ [l[i].2.2.1, l[i].2.2.2, l[i].1.2.1, l[i].1.2.2.2.2.2.2.1, l[i].1.2.2.2.2.2.2.2]) (by omega) (by simp only [List.length_append, List.length_cons, List.length_nil]; omega) fun x hxm => ?_)
  ·dsimp only [run_q29]
   unfold s_q29_22 gs_q29_22
   rw [br_pos (by omega), br_pos (by omega), Int.toNat_natCast, ble_self, br_tt, beq_self, blt_of hil]
   simp only [Bool.and_true]
   rw [br_tt, getD_of _ hil, br_pos (by simp only [List.length_cons, List.length_nil, lim]; omega), wr _ (by omega) (by omega)]
   rfl
  ·rcases List.mem_append.1 hxm with hxm | hxm
   ·exact hb x hxm
   ·simp only [List.mem_cons, List.not_mem_nil, or_false] at hxm
    rcases hxm with rfl | rfl | rfl | rfl | rfl <;> omega

theorem lown_scr {R : Type} {k K O k' K' O' : Int} {l : List Ent} (hl : l.length ≤ 20000) (hx : ∀ x ∈ l, lenE x) (K0 : Bool -> Option R) (e1 : k = k') (e2 : K = K') (e3 : O = O') : ∀ (d i : Nat) (acc : List (List Int)), i + d = l.length -> acc.length = 2 * i -> (∀ x ∈ acc, x.length ≤ 17592186044400) →
  Reach (fun m => (run_q29 K0 m).2.1 (i : Int) k K O l k' K' O' l (scrS l) i acc) (K0 true) := by
 subst e1 e2 e3
 intro d
 have hsl : (scrS l).length = l.length := List.length_map _
 induction d with
 |zero =>
  intro i acc hi ha hb
  refine .step (fun m => ?_) (lown_ent (k := k) (K := K) (O := O) hl hx K0 l.length 0 [] (by omega) rfl (by simp))
  dsimp only [run_q29]
  unfold s_q29_15 gs_q29_15
  rw [br_neg (by omega), apart_eq (apOk_of (by omega) hb)]
  show bi (!true) _ _ = _
  rw [show (!true) = false from rfl, br_ff, rsameL_eq (by omega) rfl (fun x h => lenE_short (hx x h)) (fun i hi => ⟨rfl, fun _ => rfl, fun _ => rfl, rfl⟩)]
  show bi (!true) _ _ = _
  rw [show (!true) = false from rfl, br_ff]
  rfl
 |succ d ih =>
  intro i acc hi ha hb
  have hil : i < l.length := by omega
  have his : i < (scrS l).length := by omega
  obtain ⟨s1, s2, s3, s4, s5⟩ := hx _ (List.getElem_mem hil)
  have hg : (scrS l)[i] = l[i].2 := List.getElem_map _
  refine .step (fun m => ?_) (ih (i + 1) (acc ++ [l[i].2.2.1, l[i].2.2.2]) (by omega) (by simp only [List.length_append, List.length_cons, List.length_nil]; omega) fun x hxm => ?_)
  ·dsimp only [run_q29]
   unfold s_q29_15 gs_q29_15
   rw [br_pos (by omega), br_pos (by omega), Int.toNat_natCast, ble_self, br_tt, br_pos (by omega), br_tt, beq_self, blt_of his]
   simp only [Bool.and_true]
   rw [br_tt, getD_of _ his, hg, br_pos (by simp only [List.length_cons, List.length_nil, lim]; omega), wr _ (by omega) (by omega)]
   rfl
  ·rcases List.mem_append.1 hxm with hxm | hxm
   ·exact hb x hxm
   ·simp only [List.mem_cons, List.not_mem_nil, or_false] at hxm
    rcases hxm with rfl | rfl <;> omega

theorem lown_fill {R : Type} {b : List Int} (h8 : isB8 b) (hb : b.length ≤ 20000) (K0 : Bool -> Option R) : ∀ (d i : Nat) (o : List Int), i + d = o.length -> o.length ≤ 20000 →
  Reach (fun m => (run_q29 K0 m).1 b (parseT b).2.2.2.1 (i : Int) o (parseT b).1 (parseT b).2.1 (parseT b).2.2.1 (parseT b).2.2.2.2.2) (K0 true) := by
 obtain ⟨f1, f2⟩ := parseT_len hb
 intro d
 induction d with
 |zero =>
  intro i o hi ho
  refine .step (fun m => ?_) (lown_scr (k := (parseT b).1) (K := (parseT b).2.1) (O := (parseT b).2.2.1) (by omega) f2 K0 rfl rfl rfl (parseT b).2.2.2.2.2.length 0 [] (by omega) rfl (by simp))
  dsimp only [run_q29]
  unfold s_q29_6 gs_q29_6
  rw [br_neg (by omega), rlparse_eq h8 (by omega), parseP_eq]
  dsimp only [l_q1l]
  rw [br_ne' rfl, rsameL_eq (by omega) rfl (fun x h => lenE_short (f2 x h)) (fun i hi => ⟨rfl, fun _ => rfl, fun _ => rfl, rfl⟩)]
  show bi (!true) _ _ = _
  rw [show (!true) = false from rfl, br_ff, lscr_eq (by omega) (fun x h => by obtain ⟨_, _, _, h4, h5⟩ := f2 x h; exact ⟨by omega, by omega⟩)]
  rfl
 |succ d ih =>
  intro i o hi ho
  refine .step (fun m => ?_) (ih (i + 1) (o.set i 120) (by rw [List.length_set]; omega) (by rw [List.length_set]; omega))
  dsimp only [run_q29]
  unfold s_q29_6 gs_q29_6
  rw [br_pos (by omega), br_pos (by omega), Int.toNat_natCast, wr _ (by omega) (by omega)]
  rfl

theorem law_q29 {R : Type} (b : List Int) (K0 : Bool -> Option R) (hb : b.length ≤ 140737488351232 ∧ ∀ x ∈ b, (Lit.int .u8 x).wf = true) : l_q29 b K0 = K0 true := by
 by_cases h : (b.length : Int) > 20000
 ·refine evl_eq (.now fun m => ?_)
  unfold e_q29 ge_q29
  rw [br_pos h, live27]
 ·have h8 : isB8 b := fun x hx => by
   have h1 : IntKind.u8.min ≤ x ∧ x ≤ IntKind.u8.max := by simpa [Lit.wf] using hb.2 x hx
   rw [show IntKind.u8.min = 0 by kernel_rfl, show IntKind.u8.max = 255 by kernel_rfl] at h1
   omega
  refine evl_eq (.same (fun m => ?_) (lown_fill h8 (by omega) K0 b.length 0 b (by omega) (by omega)))
  unfold e_q29 ge_q29
  rw [br_neg h, br_pos (by simp only [List.length_nil, lim]; omega), List.nil_append, lparse_eq h8, parseP_eq]
  rfl


end
end Go.Ev
