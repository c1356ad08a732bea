/- Functions of the program, as trees of tests over numbers and lists; no program in sight. -/
import Derived.Test.YtjjdadbbiciigaaGreatDoorPoEvMach
import Derived.Test.YtjjdadbbiciigaaGreatDoorPoEvNum
import Derived.Test.YtjjdadbbiciigaaGreatDoorPoEvBts
import Derived.Test.YtjjdadbbiciigaaGreatDoorPoEvText
import Derived.Test.YtjjdadbbiciigaaGreatDoorPoEvImp
import Derived.Test.YtjjdadbbiciigaaGreatDoorPoEvBack
import Derived.Test.YtjjdadbbiciigaaGreatDoorPoEvThere
import Derived.Test.YtjjdadbbiciigaaGreatDoorPoEvSrch
import Derived.Test.YtjjdadbbiciigaaGreatDoorPoEvLog
import Derived.Test.YtjjdadbbiciigaaGreatDoorPoEvLogD
import Derived.Test.YtjjdadbbiciigaaGreatDoorPoEvLogB
import Derived.Test.YtjjdadbbiciigaaGreatDoorPoEvDig
import Derived.Test.YtjjdadbbiciigaaGreatDoorPoEvTake
namespace Go.Ev
/- The functions by short names: q0 bytes_Count, q1 log_reader_want, q2 bytes_Equal, q3 bytes_HasPrefix, q4 log_reader_is, q5 text_Number, q6 log_reader_number, q7 log_reader_first, q8 log_query, q9 log_reader_row, qa log_reader_member, qb log_of, qc word_alphabet, qd word_Check, qe teach_of, qf teach_member_1, qg slices_IndexFunc_int_int_fteach_member_1, qh slices_IndexFunc_int_int, qi slices_ContainsFunc_int_int_fteach_member_1, qj slices_ContainsFunc_int_int, qk teach_member, ql teach_Check, qm log_asked_fault, qn machine_says, qo machine_head, qp machine_beyond, qq machine_Check, qr log_alike, qs log_tested_fault, qt bytes_Index, qu text_reader_want_none, qv text_reader_want, qw text_reader_number_fault, qx text_reader_number, qy text_reader_want_fault, qz text_reader_number_none, q10 text_reader_read_none, q11 text_reader_read, q12 errors_As_fault_nil, q13 errors_As, q14 errors_As_none_fault_nil, q15 text_Import, q16 log_reader_hypo, q17 log_Parse, q18 log_head, q19 log_of_v1, q1a log_Check, q1b strconv_AppendInt, q1c text_Put, q1d log_numbers, q1e log_asked_text, q1f text_Export, q1g slices_Grow_byte_byte, q1h slices_Concat_byte_byte, q1i log_tested_text, q1j log_Show, q1k log_Counts, q1l tutorlaw27_num, q1m tutorlaw27_live, q1n tutorref27_word, q1o tutorref08_Number, q1p tutorref27_some, q1q tutorref27_first, q1r tutorref27_row, q1s tutorref08_word, q1t tutorref08_take, q1u tutorref08_Import, q1v tutorref27_entry, q1w tutorref01_Check, q1x tutorref10_Check, q1y tutorref03_Check, q1z tutorref27_alike, q20 tutorref27_fault, q21 tutorref27_Parse, q22 tutorref01_Same, q23 tutorref03_Same, q24 tutorref10_Same, q25 tutorref27_Same, q26 slices_Clone_int_int, q27 log_Script, q28 tutorref01_Apart, q29 tutorlaw27_LogOwn -/
noncomputable section
set_option linter.unusedVariables false
set_option linter.unusedSimpArgs false
set_option maxRecDepth 100000
set_option maxHeartbeats 4000000

abbrev LT_q0 := {R : Type} -> (List Int) -> (List Int) -> (Int -> Option R) -> Option R
/-- bytes.Count -/
def l_q0 {R : Type} (s sep : List Int) (K0 : Int -> Option R) : Option R := l_bytesCount s sep K0

abbrev LT_q1 := {R : Type} -> ByteArray -> (List Int) -> Int -> Int -> ((List Int) -> Int -> Int -> Option R) -> Option R
abbrev GT_q1_1 (R : Type) := ByteArray -> Int -> (List Int) -> Int -> Int -> Option R
def s_q1_1 {R : Type} (g64_1 : GT_q1_1 R) (K0 : (List Int) -> Int -> Int -> Option R) (s : ByteArray) (i : Int) (o0 : List Int) (o0_1 o0_2 : Int) : Option R :=
 bi (decide (i < (s.size : Int))) (bi (o0_2 == 0) (bi (o0_1 == (o0.length : Int)) (K0 o0 o0_1 6) (bi (decide (0 ≤ o0_1 ∧ o0_1 < ((o0.length : Nat) : Int))) (bi (decide (0 ≤ i ∧ i < ((s.size : Nat) : Int))) (bi ((o0.getD o0_1.toNat 0) != ((s.data.toList.getD i.toNat 0).toNat : Int)) (K0 o0 o0_1 6) (g64_1 s (IntKind.i64.wrap (i + 1)) o0 (IntKind.i64.wrap (o0_1 + 1)) o0_2)) none) none))
 (K0 o0 o0_1 o0_2)) (K0 o0 o0_1 o0_2)

def e_q1 {R : Type} (g64_1 : GT_q1_1 R) (K0 : (List Int) -> Int -> Int -> Option R) (s : ByteArray) (o0 : List Int) (o0_1 o0_2 : Int) : Option R :=
 g64_1 s 0 o0 o0_1 o0_2

def run_q1 {R : Type} (K0 : (List Int) -> Int -> Int -> Option R) : Nat -> GT_q1_1 R
 |0 => fun _ _ _ _ _ => none
 |n + 1 => s_q1_1 (run_q1 K0 n) K0

def l_q1 {R : Type} (s : ByteArray) (o0 : List Int) (o0_1 o0_2 : Int) (K0 : (List Int) -> Int -> Int -> Option R) : Option R := evl fun fuel => e_q1 (run_q1 K0 fuel) K0 s o0 o0_1 o0_2

theorem lwant_go {R : Type} {b : List Int} (hs : short b) (s : ByteArray) (hz : s.size ≤ 1000) (K0 : List Int -> Int -> Int -> Option R) :
  ∀ (d i a : Nat), i + d = s.size -> a ≤ b.length →
   Reach (fun m => run_q1 K0 m s (i : Int) b (a : Int) 0) (K0 b (stA (wantS ((bts s).drop i) b a)) (stE (wantS ((bts s).drop i) b a))) := by
 have hl : (bts s).length = s.size := bts_size s
 unfold short at hs
 intro d
 induction d with
 |zero =>
  intro i a hi ha
  refine .now fun m => ?_
  rw [show run_q1 K0 (m + 1) = s_q1_1 (run_q1 K0 m) K0 from rfl]
  unfold s_q1_1
  rw [br_neg (by omega), List.drop_of_length_le (by omega)]
  rfl
 |succ d ih =>
  intro i a hi ha
  have hlt : i < (bts s).length := by omega
  have hget : (bts s)[i] = ((s.data.toList.getD i 0).toNat : Int) := by
   rw [bts_at, getD_of 0 hlt]
  rw [List.drop_eq_getElem_cons hlt, hget]
  unfold wantS
  by_cases h1 : a = b.length
  ·refine .now fun m => ?_
   rw [show run_q1 K0 (m + 1) = s_q1_1 (run_q1 K0 m) K0 from rfl]
   unfold s_q1_1
   rw [br_pos (by omega), br_eq rfl, br_eq (by omega), if_neg (by rw [List.getElem?_eq_none (by omega)]; simp)]
   rfl
  ·have hab : a < b.length := by omega
   by_cases h2 : b[a] = ((s.data.toList.getD i 0).toNat : Int)
   ·rw [if_pos (by rw [List.getElem?_eq_getElem hab, h2])]
    refine .step (fun m => ?_) (ih (i + 1) (a + 1) (by omega) (by omega))
    rw [show run_q1 K0 (m + 1) = s_q1_1 (run_q1 K0 m) K0 from rfl]
    unfold s_q1_1
    rw [br_pos (by omega), br_eq rfl, br_eq' (by omega), br_pos (by omega), br_pos (by omega), Int.toNat_natCast, Int.toNat_natCast, getD_of 0 hab, br_ne' h2, wr ((i : Int) + 1) (by omega) (by omega), wr ((a : Int) + 1) (by omega) (by omega)]
    rfl
   ·rw [if_neg (by rw [List.getElem?_eq_getElem hab]; simpa using h2)]
    refine .now fun m => ?_
    rw [show run_q1 K0 (m + 1) = s_q1_1 (run_q1 K0 m) K0 from rfl]
    unfold s_q1_1
    rw [br_pos (by omega), br_eq rfl, br_eq' (by omega), br_pos (by omega), br_pos (by omega), Int.toNat_natCast, Int.toNat_natCast, getD_of 0 hab, br_ne h2]
    rfl

theorem lwant_eq {R : Type} {b : List Int} (hs : short b) (s : ByteArray) (hz : s.size ≤ 1000) {r : Rd Nat} (hr : okR b r) (K0 : List Int -> Int -> Int -> Option R) :
  l_q1 s b (stA r) (stE r) K0 = K0 b (stA (bindR r (wantS (bts s) b))) (stE (bindR r (wantS (bts s) b))) := by
 unfold l_q1
 cases r with
 |inl f =>
  refine evl_eq (.now fun m => ?_)
  unfold e_q1
  rw [show run_q1 K0 (m + 1) = s_q1_1 (run_q1 K0 m) K0 from rfl]
  unfold s_q1_1
  have hf : stE (.inl f) ≠ 0 := hr
  by_cases h : (0 : Int) < (s.size : Int)
  ·rw [br_pos h, br_eq' hf]
   rfl
  ·rw [br_neg h]
   rfl
 |inr a =>
  refine evl_eq ((lwant_go hs s hz K0 s.size 0 a (by omega) hr).same fun m => rfl)

abbrev LT_q2 := {R : Type} -> (List Int) -> (List Int) -> (Bool -> Option R) -> Option R
def l_q2 {R : Type} (a b : List Int) (K0 : Bool -> Option R) : Option R :=
 K0 ((ofBts a).toList == (ofBts b).toList)

abbrev LT_q3 := {R : Type} -> (List Int) -> (List Int) -> (Bool -> Option R) -> Option R
abbrev gl_q3 (l_q2 : LT_q2) {R : Type} (s vprefix : List Int) (K0 : Bool -> Option R) : Option R :=
 bi (decide ((s.length : Int) ≥ (vprefix.length : Int))) (bi (decide (0 ≤ (vprefix.length : Int) ∧ (vprefix.length : Int) ≤ ((s.length : Nat) : Int))) (l_q2 (s.take ((vprefix.length : Int).toNat)) vprefix (fun r1 => K0 r1)) none) (K0 false)

def l_q3 {R : Type} := @gl_q3 @l_q2 R

theorem prefix_eq {R : Type} {a p : List Int} (ha : isB8 a) (hp : isB8 p) (K0 : Bool -> Option R) : l_q3 a p K0 = K0 (decide (a.take p.length = p)) := by
 unfold l_q3 gl_q3 l_q2
 by_cases h : (a.length : Int) ≥ (p.length : Int)
 ·rw [br_pos h, br_pos (by omega), Int.toNat_natCast, str_eq, bts_ofBts (fun x hx => ha x (List.mem_of_mem_take hx)), bts_ofBts hp]
 ·rw [br_neg h, decide_eq_false]
  intro e
  have := congrArg List.length e
  rw [List.length_take] at this
  omega

abbrev LT_q4 := {R : Type} -> ByteArray -> (List Int) -> Int -> Int -> (Bool -> (List Int) -> Int -> Int -> Option R) -> Option R
abbrev gl_q4 (l_q3 : LT_q3) {R : Type} (s : ByteArray) (o0 : List Int) (o0_1 o0_2 : Int) (K0 : Bool -> (List Int) -> Int -> Int -> Option R) : Option R :=
 bi (o0_2 != 0) (K0 false o0 o0_1 o0_2) (bi (decide (0 ≤ o0_1 ∧ o0_1 ≤ ((o0.length : Nat) : Int))) (bi (decide (s.size ≤ 1073741824)) (l_q3 ((o0.drop o0_1.toNat).take (o0.length - o0_1.toNat)) (bts s) (fun r1 => bi (!r1) (K0 false o0 o0_1 o0_2) (K0 true o0 (IntKind.i64.wrap (o0_1 + (s.size : Int))) o0_2))) none) none)

def l_q4 {R : Type} := @gl_q4 @l_q3 R

theorem lis_eq {R : Type} {b : List Int} (hs : short b) (hb : isB8 b) (s : ByteArray) (hz : s.size ≤ 1000) {r : Rd Nat} (hr : okR b r) (K0 : Bool -> List Int -> Int -> Int -> Option R) :
  l_q4 s b (stA r) (stE r) K0 = K0 (isS (bts s) b r) b (stA (isR (bts s) b r)) (stE (isR (bts s) b r)) := by
 unfold l_q4 gl_q4
 unfold short at hs
 cases r with
 |inl f =>
  have hf : stE (.inl f) ≠ 0 := hr
  rw [br_ne hf]
  rfl
 |inr a =>
  have ha : a ≤ b.length := hr
  have e : ((b.drop a).take (b.length - a)) = b.drop a := List.take_of_length_le (by rw [List.length_drop]; exact Nat.le_refl _)
  show bi ((0 : Int) != 0) _ _ = _
  rw [br_ne' rfl]
  show bi (decide (0 ≤ (a : Int) ∧ (a : Int) ≤ ((b.length : Nat) : Int))) _ _ = _
  rw [br_pos (by omega), br_pos (by omega), show (stA (.inr a)).toNat = a from Int.toNat_natCast a, e, prefix_eq (fun x hx => hb x (List.mem_of_mem_drop hx)) (isB8_bts s)]
  try dsimp only
  show _ = K0 (decide ((b.drop a).take (bts s).length = bts s)) b (stA (if (b.drop a).take (bts s).length = bts s then .inr (a + (bts s).length) else .inr a)) (stE (if (b.drop a).take (bts s).length = bts s then .inr (a + (bts s).length) else .inr a))
  by_cases h : (b.drop a).take (bts s).length = bts s
  ·rw [decide_eq_true h, if_pos h, show (!true) = false from rfl, br_ff, bts_size]
   show K0 true b (IntKind.i64.wrap ((a : Int) + (s.size : Int))) 0 = _
   rw [wr _ (by omega) (by omega)]
   rfl
  ·rw [decide_eq_false h, if_neg h, show (!false) = true from rfl, br_tt]

abbrev LT_q5 := {R : Type} -> (List Int) -> Int -> (Int -> Int -> Int -> Option R) -> Option R
abbrev GT_q5_4 (R : Type) := (List Int) -> Int -> Int -> Int -> Option R
def s_q5_4 {R : Type} (g87_4 : GT_q5_4 R) (K0 : Int -> Int -> Int -> Option R) (b : List Int) (vat n i : Int) : Option R :=
 bi (decide (i < (b.length : Int))) (bi (decide (0 ≤ i ∧ i < ((b.length : Nat) : Int))) (bi (decide ((b.getD i.toNat 0) ≥ 48)) (bi (decide (0 ≤ i ∧ i < ((b.length : Nat) : Int))) (bi (decide ((b.getD i.toNat 0) ≤ 57)) (bi ((IntKind.i64.wrap (i - vat)) == 4) (K0 0 i 6) (bi ((IntKind.i64.wrap (i - vat)) == 1) (bi (decide (0 ≤ vat ∧ vat < ((b.length : Nat) : Int))) (bi ((b.getD vat.toNat 0) == 48)
 (K0 0 i 6) (bi (decide (0 ≤ i ∧ i < ((b.length : Nat) : Int))) (g87_4 b vat (IntKind.i64.wrap ((IntKind.i64.wrap (10 * n)) + (IntKind.i64.wrap (IntKind.u8.wrap ((b.getD i.toNat 0) - 48))))) (IntKind.i64.wrap (i + 1))) none)) none) (bi (decide (0 ≤ i ∧ i < ((b.length : Nat) : Int)))
 (g87_4 b vat (IntKind.i64.wrap ((IntKind.i64.wrap (10 * n)) + (IntKind.i64.wrap (IntKind.u8.wrap ((b.getD i.toNat 0) - 48))))) (IntKind.i64.wrap (i + 1))) none))) (bi (i == vat) (K0 0 vat 6) (K0 n i 0))) none) (bi (i == vat) (K0 0 vat 6) (K0 n i 0))) none) (bi (i == vat) (K0 0 vat 6) (K0 n i 0))

def e_q5 {R : Type} (g87_4 : GT_q5_4 R) (K0 : Int -> Int -> Int -> Option R) (b : List Int) (vat : Int) : Option R :=
 bi (decide (vat < 0)) (K0 0 0 1) (bi (decide (vat > (b.length : Int))) (K0 0 0 1) (g87_4 b vat 0 vat))

def run_q5 {R : Type} (K0 : Int -> Int -> Int -> Option R) : Nat -> GT_q5_4 R
 |0 => fun _ _ _ _ => none
 |n + 1 => s_q5_4 (run_q5 K0 n) K0

def l_q5 {R : Type} (b : List Int) (vat : Int) (K0 : Int -> Int -> Int -> Option R) : Option R := bi (decide (short b)) (K0 (numS b vat).1 (numS b vat).2.1 (numS b vat).2.2) none

theorem number_run {R : Type} {b : List Int} (hs : short b) {a : Nat} (ha : a ≤ b.length) (K0 : Int -> Int -> Int -> Option R) :
  ∀ (d i k : Nat) (z : Bool) (n : Int), i + d = b.length -> i = a + k -> k ≤ 4 -> 0 ≤ n -> n < 10 ^ k -> (0 < k -> z = decide (b.getD a 0 = 48)) →
   Reach (fun m => run_q5 K0 m b (a : Int) n (i : Int)) (K0 (numR (b.drop i) k z n).1 ((a : Int) + (numR (b.drop i) k z n).2.1) (numR (b.drop i) k z n).2.2) := by
 unfold short at hs
 intro d
 induction d with
 |zero =>
  intro i k z n hi hk hk4 hn0 hn1 hz
  refine .now fun m => ?_
  rw [show run_q5 K0 (m + 1) = s_q5_4 (run_q5 K0 m) K0 from rfl]
  unfold s_q5_4
  rw [br_neg (by omega), List.drop_of_length_le (by omega)]
  simp only [numR]
  by_cases c : k = 0
  ·rw [if_pos c, br_eq (by omega)]
   simp
  ·rw [if_neg c, br_eq' (by omega)]
   dsimp only
   congr 1
   omega
 |succ d ih =>
  intro i k z n hi hk hk4 hn0 hn1 hz
  have h1 : i < b.length := by omega
  have n4 : n < 10000 := by
   have : (10 : Int) ^ k ≤ 10 ^ 4 := by
    have : (10 : Nat) ^ k ≤ 10 ^ 4 := Nat.pow_le_pow_right (by decide) hk4
    exact_mod_cast this
   omega
  rw [List.drop_eq_getElem_cons h1]
  simp only [numR]
  have stop : ∀ m : Nat, (bi ((i : Int) == (a : Int)) (K0 0 (a : Int) 6) (K0 n (i : Int) 0)) = K0 (if k = 0 then ((0 : Int), 0, (6 : Int)) else (n, k, 0)).1 ((a : Int) + (if k = 0 then ((0 : Int), 0, (6 : Int)) else (n, k, 0)).2.1) (if k = 0 then ((0 : Int), 0, (6 : Int)) else (n, k, 0)).2.2 := by
   intro _
   by_cases c : k = 0
   ·rw [if_pos c, br_eq (by omega)]
    simp
   ·rw [if_neg c, br_eq' (by omega)]
    dsimp only
    congr 1
    omega
  by_cases c1 : isDig b[i]
  ·rw [if_pos c1]
   have c1' := c1
   unfold isDig at c1'
   by_cases c2 : k = 4 ∨ (k = 1 ∧ z = true)
   ·rw [if_pos c2]
    refine .now fun m => ?_
    rw [show run_q5 K0 (m + 1) = s_q5_4 (run_q5 K0 m) K0 from rfl]
    unfold s_q5_4
    rw [br_pos (by omega), br_pos (by omega), Int.toNat_natCast, getD_of 0 h1, br_pos (by omega), br_pos (by omega), br_pos (by omega), wr ((i : Int) - a) (by omega) (by omega)]
    rcases c2 with c2 | ⟨c2, c3⟩
    ·rw [br_eq (by omega)]
     dsimp only
     congr 1
     omega
    ·have hz := hz (by omega)
     rw [c3] at hz
     have hz := of_decide_eq_true hz.symm
     rw [br_eq' (by omega), br_eq (by omega), br_pos (by omega), Int.toNat_natCast, hz, br_eq rfl]
     dsimp only
     congr 1
     omega
   ·rw [if_neg c2]
    have hp : (10 : Int) ^ (k + 1) = 10 ^ k * 10 := Int.pow_succ 10 k
    refine .step (fun m => ?_) (ih (i + 1) (k + 1) _ (10 * n + (b[i] - 48)) (by omega) (by omega) (by omega) (by omega) (by omega) ?_)
    ·rw [show run_q5 K0 (m + 1) = s_q5_4 (run_q5 K0 m) K0 from rfl]
     unfold s_q5_4
     rw [br_pos (by omega), br_pos (by omega), Int.toNat_natCast, getD_of 0 h1, br_pos (by omega), br_pos (by omega), br_pos (by omega), wr ((i : Int) - a) (by omega) (by omega), br_eq' (by omega)]
     have e1 : IntKind.i64.wrap (IntKind.i64.wrap (10 * n) + IntKind.i64.wrap (IntKind.u8.wrap (b[i] - 48))) = 10 * n + (b[i] - 48) := by
      rw [wr (10 * n) (by omega) (by omega), wr8 (b[i] - 48) (by omega) (by omega), wr (b[i] - 48) (by omega) (by omega), wr _ (by omega) (by omega)]
     rw [e1, wr ((i : Int) + 1) (by omega) (by omega)]
     by_cases c3 : k = 1
     ·have hz := hz (by omega)
      have hzf : ¬ b.getD a 0 = 48 := by
       intro h
       exact c2 (.inr ⟨c3, by rw [hz]; exact decide_eq_true h⟩)
      rw [br_eq (by omega), br_pos (by omega), Int.toNat_natCast, br_eq' hzf, br_pos (by omega)]
      rfl
     ·rw [br_eq' (by omega), br_pos (by omega)]
      rfl
    ·intro _
     by_cases c3 : k = 0
     ·rw [if_pos c3]
      have e : i = a := by omega
      subst e
      rw [getD_of 0 h1]
     ·rw [if_neg c3]
      exact hz (by omega)
  ·rw [if_neg c1]
   refine .now fun m => ?_
   rw [show run_q5 K0 (m + 1) = s_q5_4 (run_q5 K0 m) K0 from rfl]
   unfold s_q5_4
   rw [br_pos (by omega), br_pos (by omega), Int.toNat_natCast, getD_of 0 h1]
   unfold isDig at c1
   by_cases c2 : b[i] ≥ 48
   ·rw [br_pos c2, br_pos (by omega), br_neg (by omega)]
    exact stop m
   ·rw [br_neg c2]
    exact stop m

theorem ok_q5 {R : Type} (b : List Int) (vat : Int) (K0 : Int -> Int -> Int -> Option R) {r : R} (h : l_q5 b vat K0 = some r) : ∃ fuel, e_q5 (run_q5 K0 fuel) K0 b vat = some r := by
 unfold l_q5 at h
 rcases bi_some h with ⟨hs, h⟩ | ⟨_, h⟩
 ·have hs : short b := of_decide_eq_true hs
  rw [← h]
  unfold numS
  by_cases c : vat < 0
  ·rw [if_pos (.inl c)]
   exact ⟨0, by unfold e_q5; rw [br_pos c]⟩
  ·by_cases c2 : vat > (b.length : Int)
   ·rw [if_pos (.inr c2)]
    exact ⟨0, by unfold e_q5; rw [br_neg c, br_pos c2]⟩
   ·rw [if_neg (by omega)]
    obtain ⟨a, rfl⟩ : ∃ a : Nat, vat = a := ⟨vat.toNat, by omega⟩
    obtain ⟨n, hn⟩ := (number_run hs (a := a) (by omega) K0 (b.length - a) a 0 false 0 (by omega) (by omega) (by omega) (by omega) (by omega) (by omega)).get
    refine ⟨n, ?_⟩
    unfold e_q5
    rw [br_neg c, br_neg c2, hn, Int.toNat_natCast]
    rfl
 ·cases h

theorem number_eq {R : Type} {b : List Int} (hs : short b) (vat : Int) (K0 : Int -> Int -> Int -> Option R) : l_q5 b vat K0 = K0 (numS b vat).1 (numS b vat).2.1 (numS b vat).2.2 := br_pos hs

abbrev LT_q6 := {R : Type} -> Int -> Int -> (List Int) -> Int -> Int -> (Int -> (List Int) -> Int -> Int -> Option R) -> Option R
abbrev gl_q6 (l_q5 : LT_q5) {R : Type} (most kind : Int) (o0 : List Int) (o0_1 o0_2 : Int) (K0 : Int -> (List Int) -> Int -> Int -> Option R) : Option R :=
 bi (o0_2 != 0) (K0 0 o0 o0_1 o0_2) (l_q5 o0 o0_1 (fun r1 r2 r3 => bi (r3 != 0) (K0 0 o0 r2 r3) (bi (decide (r1 < 1)) (K0 0 o0 o0_1 kind) (bi (decide (r1 > most)) (K0 0 o0 o0_1 kind) (K0 r1 o0 r2 o0_2)))))

def l_q6 {R : Type} := @gl_q6 @l_q5 R

theorem lnumber_eq {R : Type} {b : List Int} (hs : short b) {most kind : Int} {r : Rd Nat} (hr : okR b r) (K0 : Int -> List Int -> Int -> Int -> Option R) :
  l_q6 most kind b (stA r) (stE r) K0 = K0 (nuV (bindR r (numbS 1 most kind b))) b (stA (nuR (bindR r (numbS 1 most kind b)))) (stE (nuR (bindR r (numbS 1 most kind b)))) := by
 unfold l_q6 gl_q6
 cases r with
 |inl f =>
  have hf : stE (.inl f) ≠ 0 := hr
  rw [br_ne hf]
  rfl
 |inr a =>
  have ha : a ≤ b.length := hr
  show bi ((0 : Int) != 0) _ (l_q5 b (a : Int) _) = _
  rw [br_ne' rfl, number_eq hs, numS_place ha]
  try dsimp only
  show _ = K0 (nuV (numbS 1 most kind b a)) b (stA (nuR (numbS 1 most kind b a))) (stE (nuR (numbS 1 most kind b a)))
  unfold numbS
  by_cases h1 : (numL (b.drop a)).2.2 ≠ 0
  ·rw [br_ne h1, if_pos h1]
   rfl
  ·rw [br_ne' (Decidable.not_not.1 h1), if_neg h1]
   by_cases h2 : (numL (b.drop a)).1 < 1
   ·rw [br_pos h2, if_pos (.inl h2)]
    rfl
   ·rw [br_neg h2]
    by_cases h3 : (numL (b.drop a)).1 > most
    ·rw [br_pos h3, if_pos (.inr h3)]
     rfl
    ·rw [br_neg h3, if_neg (by omega)]
     rfl

abbrev KT0_q7 (R : Type) := Int -> Int -> Int -> (List Int) -> Int -> Int -> (List Ent) -> Option R
abbrev LT_q7 := {R : Type} -> (List Int) -> Int -> Int -> (KT0_q7 R) -> Option R
abbrev gl_q7 (l_q1 : LT_q1) (l_q6 : LT_q6) (l_q4 : LT_q4) {R : Type} (o0 : List Int) (o0_1 o0_2 : Int) (K0 : KT0_q7 R) : Option R :=
 l_q1 (ByteArray.mk #[108, 111, 103, 32]) o0 o0_1 o0_2 (fun r1 r2 r3 => l_q4 (ByteArray.mk #[109]) r1 r2 r3 (fun r4 r5 r6 r7 => bi r4 (l_q1 (ByteArray.mk #[101, 97, 108, 121, 32]) r5 r6 r7 (fun r8 r9 r10 => l_q6 64 1 r8 r9 r10 (fun r11 r12 r13 r14 => l_q1 (ByteArray.mk #[32]) r12 r13 r14 (fun r15 r16 r17 =>
 l_q6 64 33 r15 r16 r17 (fun r18 r19 r20 r21 => l_q1 (ByteArray.mk #[10]) r19 r20 r21 (fun r22 r23 r24 => K0 2 r11 r18 r22 r23 r24 ([] : List Ent))))))) (l_q1 (ByteArray.mk #[100, 102, 97, 32]) r5 r6 r7 (fun r25 r26 r27 =>
 l_q6 64 1 r25 r26 r27 (fun r28 r29 r30 r31 => l_q1 (ByteArray.mk #[10]) r29 r30 r31 (fun r32 r33 r34 => K0 1 r28 2 r32 r33 r34 ([] : List Ent)))))))

def l_q7 {R : Type} := @gl_q7 @l_q1 @l_q6 @l_q4 R

theorem lfirst_eq {R : Type} {b : List Int} (hs : b.length ≤ 17000000) (hb : isB8 b) {r : Rd Nat} (hr : okR b r) (K0 : Int -> Int -> Int -> List Int -> Int -> Int -> List Ent -> Option R) :
  l_q7 b (stA r) (stE r) K0 = K0 (firstL b r).1 (firstL b r).2.1 (firstL b r).2.2.1 b (stA (firstL b r).2.2.2) (stE (firstL b r).2.2.2) [] := by
 have hsh : short b := by unfold short; omega
 have e1 : bts (ByteArray.mk #[108, 111, 103, 32]) = [108, 111, 103, 32] := rfl
 have e2 : bts (ByteArray.mk #[109]) = [109] := rfl
 have e3 : bts (ByteArray.mk #[101, 97, 108, 121, 32]) = [101, 97, 108, 121, 32] := rfl
 have e4 : bts (ByteArray.mk #[32]) = [32] := rfl
 have e5 : bts (ByteArray.mk #[10]) = [10] := rfl
 have e6 : bts (ByteArray.mk #[100, 102, 97, 32]) = [100, 102, 97, 32] := rfl
 have k1 : okR b (wnt [108, 111, 103, 32] b r) := wnt_ok hr
 have k2 : okR b (isR [109] b (wnt [108, 111, 103, 32] b r)) := is_ok k1
 unfold l_q7 gl_q7 firstL
 rw [lwant_eq hsh _ (by decide) hr, e1]
 try dsimp only
 rw [show bindR r (wantS [108, 111, 103, 32] b) = wnt [108, 111, 103, 32] b r from rfl, lis_eq hsh hb _ (by decide) k1, e2]
 try dsimp only
 by_cases h : isS [109] b (wnt [108, 111, 103, 32] b r) = true
 ·rw [h, br_tt, if_pos rfl, lwant_eq hsh _ (by decide) k2, e3]
  try dsimp only
  rw [show bindR (isR [109] b (wnt [108, 111, 103, 32] b r)) (wantS [101, 97, 108, 121, 32] b) = wnt [101, 97, 108, 121, 32] b (isR [109] b (wnt [108, 111, 103, 32] b r)) from rfl]
  generalize hq : wnt [101, 97, 108, 121, 32] b (isR [109] b (wnt [108, 111, 103, 32] b r)) = q
  have k3 : okR b q := by rw [← hq]; exact wnt_ok k2
  rw [lnumber_eq hsh k3]
  try dsimp only
  rw [show bindR q (numbS 1 64 1 b) = nmb 64 1 b q from rfl]
  have k4 : okR b (nuR (nmb 64 1 b q)) := nmb_ok (by decide) k3
  rw [lwant_eq hsh _ (by decide) k4, e4]
  try dsimp only
  rw [show bindR (nuR (nmb 64 1 b q)) (wantS [32] b) = wnt [32] b (nuR (nmb 64 1 b q)) from rfl]
  have k5 : okR b (wnt [32] b (nuR (nmb 64 1 b q))) := wnt_ok k4
  rw [lnumber_eq hsh k5]
  try dsimp only
  rw [show bindR (wnt [32] b (nuR (nmb 64 1 b q))) (numbS 1 64 33 b) = nmb 64 33 b (wnt [32] b (nuR (nmb 64 1 b q))) from rfl]
  rw [lwant_eq hsh _ (by decide) (nmb_ok (by decide) k5), e5]
  rfl
 ·rw [Bool.not_eq_true] at h
  rw [h, br_ff, if_neg (by decide), lwant_eq hsh _ (by decide) k2, e6]
  try dsimp only
  rw [show bindR (isR [109] b (wnt [108, 111, 103, 32] b r)) (wantS [100, 102, 97, 32] b) = wnt [100, 102, 97, 32] b (isR [109] b (wnt [108, 111, 103, 32] b r)) from rfl]
  generalize hq : wnt [100, 102, 97, 32] b (isR [109] b (wnt [108, 111, 103, 32] b r)) = q
  have k3 : okR b q := by rw [← hq]; exact wnt_ok k2
  rw [lnumber_eq hsh k3]
  try dsimp only
  rw [show bindR q (numbS 1 64 1 b) = nmb 64 1 b q from rfl, lwant_eq hsh _ (by decide) (nmb_ok (by decide) k3), e5]
  rfl

abbrev KT0_q8 (R : Type) := Int -> (List Int) -> Int -> Int -> Int -> Int -> (List Int) -> (List Int) -> Option R
abbrev LT_q8 := {R : Type} -> Int -> Int -> Int -> (List Int) -> (KT0_q8 R) -> Option R
def l_q8 {R : Type} (l l_1 l_2 : Int) (w : List Int) (K0 : KT0_q8 R) : Option R :=
 K0 1 w l l_1 l_2 0 ([] : List Int) ([] : List Int)

abbrev LT_q9 := {R : Type} -> Bool -> (List Int) -> Int -> Int -> ((List Int) -> Int -> Int -> (List Int) -> Option R) -> Option R
abbrev GT_q9_2 (R : Type) := Bool -> (List Int) -> Int -> Int -> (List Int) -> Option R
abbrev gs_q9_2 (l_q5 : LT_q5) {R : Type} (g68_2 : GT_q9_2 R) (K0 : (List Int) -> Int -> Int -> (List Int) -> Option R) (vall : Bool) (o0 : List Int) (o0_1 o0_2 : Int) (o1 : List Int) : Option R :=
 bi (o0_2 == 0) (bi (decide (o0_1 < (o0.length : Int))) (bi (decide (0 ≤ o0_1 ∧ o0_1 < ((o0.length : Nat) : Int))) (bi ((o0.getD o0_1.toNat 0) == 32) (bi (!vall) (bi (decide ((IntKind.i64.wrap (o0_1 + 1)) < (o0.length : Int))) (bi (decide (0 ≤ (IntKind.i64.wrap (o0_1 + 1)) ∧ (IntKind.i64.wrap (o0_1 + 1)) < ((o0.length : Nat) : Int))) (bi ((o0.getD ((IntKind.i64.wrap (o0_1 + 1)).toNat) 0) == 61)
 (K0 o0 o0_1 o0_2 o1) (l_q5 o0 (IntKind.i64.wrap (o0_1 + 1)) (fun r1 r2 r3 => bi (r3 != 0) (K0 o0 r2 r3 ([] : List Int)) (bi (decide ((o1.length + [r1].length) * 8 ≤ lim)) (g68_2 vall o0 r2 o0_2 (o1 ++ [r1])) none)))) none) (l_q5 o0 (IntKind.i64.wrap (o0_1 + 1)) (fun r4 r5 r6 => bi (r6 != 0) (K0 o0 r5 r6 ([] : List Int)) (bi (decide ((o1.length + [r4].length) * 8 ≤ lim))
 (g68_2 vall o0 r5 o0_2 (o1 ++ [r4])) none)))) (l_q5 o0 (IntKind.i64.wrap (o0_1 + 1)) (fun r7 r8 r9 => bi (r9 != 0) (K0 o0 r8 r9 ([] : List Int)) (bi (decide ((o1.length + [r7].length) * 8 ≤ lim)) (g68_2 vall o0 r8 o0_2 (o1 ++ [r7])) none)))) (K0 o0 o0_1 o0_2 o1)) none) (K0 o0 o0_1 o0_2 o1)) (K0 o0 o0_1 o0_2 o1)

def s_q9_2 {R : Type} := @gs_q9_2 @l_q5 R

abbrev ge_q9 (l_q5 : LT_q5) {R : Type} (g68_2 : GT_q9_2 R) (K0 : (List Int) -> Int -> Int -> (List Int) -> Option R) (vall : Bool) (o0 : List Int) (o0_1 o0_2 : Int) : Option R :=
 g68_2 vall o0 o0_1 o0_2 ([] : List Int)

def e_q9 {R : Type} := @ge_q9 @l_q5 R

def run_q9 {R : Type} (K0 : (List Int) -> Int -> Int -> (List Int) -> Option R) : Nat -> GT_q9_2 R
 |0 => fun _ _ _ _ _ => none
 |n + 1 => s_q9_2 (run_q9 K0 n) K0

def l_q9 {R : Type} (vall : Bool) (o0 : List Int) (o0_1 o0_2 : Int) (K0 : (List Int) -> Int -> Int -> (List Int) -> Option R) : Option R := evl fun fuel => e_q9 (run_q9 K0 fuel) K0 vall o0 o0_1 o0_2

theorem lrow_go {R : Type} {b : List Int} (hs : b.length ≤ 17000000) (all : Bool) (K0 : List Int -> Int -> Int -> List Int -> Option R) :
  ∀ (n a : Nat) (acc : List Int), b.length + 1 ≤ n + a -> acc.length ≤ b.length -> acc.length ≤ a -> Reach (fun m => run_q9 K0 m all b (a : Int) 0 acc) (K0 b (stA (roR (lrow all b n a acc))) (stE (roR (lrow all b n a acc))) (roV (lrow all b n a acc)))
 |0, a, acc, hn, hl, hla => by
  refine .now fun m => ?_
  rw [show run_q9 K0 (m + 1) = s_q9_2 (run_q9 K0 m) K0 from rfl]
  unfold s_q9_2 gs_q9_2
  rw [br_eq rfl, br_neg (by omega)]
  rfl
 |n + 1, a, acc, hn, hl, hla => by
  by_cases hab : a < b.length
  ·by_cases h1 : b[a] = 32
   ·have g1 : b[a]? = some 32 := by rw [List.getElem?_eq_getElem hab, h1]
    have hle := numL_le (b.drop (a + 1))
    rw [List.length_drop] at hle
    have num : ∀ m, l_q5 b (IntKind.i64.wrap ((a : Int) + 1)) (fun r1 r2 r3 => bi (r3 != 0) (K0 b r2 r3 []) (bi (decide ((acc.length + [r1].length) * 8 ≤ lim)) (run_q9 K0 m all b r2 0 (acc ++ [r1])) none)) =
      if (numL (b.drop (a + 1))).2.2 ≠ 0 then K0 b ((a + 1 + (numL (b.drop (a + 1))).2.1 : Nat) : Int) (numL (b.drop (a + 1))).2.2 []
      else run_q9 K0 m all b ((a + 1 + (numL (b.drop (a + 1))).2.1 : Nat) : Int) 0 (acc ++ [(numL (b.drop (a + 1))).1]) := fun m => by
     rw [wr _ (by omega) (by omega), show (a : Int) + 1 = ((a + 1 : Nat) : Int) from rfl, number_eq (by unfold short; omega), numS_place (by omega)]
     try dsimp only
     by_cases h : (numL (b.drop (a + 1))).2.2 ≠ 0
     ·rw [br_ne h, if_pos h]
     ·rw [br_ne' (Decidable.not_not.1 h), if_neg h, br_pos (by simp only [List.length_cons, List.length_nil, lim]; omega)]
    by_cases h2 : all = false ∧ b[a + 1]? = some 61
    ·obtain ⟨rfl, h61⟩ := h2
     refine .now fun m => ?_
     rw [show run_q9 K0 (m + 1) = s_q9_2 (run_q9 K0 m) K0 from rfl]
     have hlt := (List.getElem?_eq_some_iff.1 h61).1
     have hv := (List.getElem?_eq_some_iff.1 h61).2
     unfold s_q9_2 gs_q9_2 lrow
     rw [br_eq rfl, br_pos (by omega), br_pos (by omega), Int.toNat_natCast, getD_of 0 hab, br_eq h1, show (!false) = true from rfl, br_tt, wr _ (by omega) (by omega), br_pos (by omega), br_pos (by omega), show ((a : Int) + 1).toNat = a + 1 by omega, getD_of 0 hlt, br_eq hv, if_neg (fun q => q.2 ⟨rfl, h61⟩)]
     rfl
    ·have key : ∀ m, run_q9 K0 (m + 1) all b (a : Int) 0 acc = l_q5 b (IntKind.i64.wrap ((a : Int) + 1)) (fun r1 r2 r3 => bi (r3 != 0) (K0 b r2 r3 []) (bi (decide ((acc.length + [r1].length) * 8 ≤ lim)) (run_q9 K0 m all b r2 0 (acc ++ [r1])) none)) := fun m => by
      rw [show run_q9 K0 (m + 1) = s_q9_2 (run_q9 K0 m) K0 from rfl]
      unfold s_q9_2 gs_q9_2
      rw [br_eq rfl, br_pos (by omega), br_pos (by omega), Int.toNat_natCast, getD_of 0 hab, br_eq h1]
      cases all with
      |true => rfl
      |false =>
       rw [show (!false) = true from rfl, br_tt]
       by_cases h3 : a + 1 < b.length
       ·have h4 : b[a + 1] ≠ 61 := fun e => h2 ⟨rfl, by rw [List.getElem?_eq_getElem h3, e]⟩
        rw [wr ((a : Int) + 1) (by omega) (by omega), br_pos (by omega), br_pos (by omega), show ((a : Int) + 1).toNat = a + 1 by omega, getD_of 0 h3, br_eq' h4]
       ·rw [wr ((a : Int) + 1) (by omega) (by omega), br_neg (by omega)]
     unfold lrow
     rw [if_pos ⟨g1, h2⟩]
     by_cases h : (numL (b.drop (a + 1))).2.2 ≠ 0
     ·rw [if_pos h]
      refine .now fun m => ?_
      rw [key, num, if_pos h]
      rfl
     ·rw [if_neg h]
      refine .step (fun m => ?_) (lrow_go hs all K0 n (a + 1 + (numL (b.drop (a + 1))).2.1) (acc ++ [(numL (b.drop (a + 1))).1]) (by omega) (by rw [List.length_append, List.length_singleton]; omega) (by rw [List.length_append, List.length_singleton]; omega))
      rw [key, num, if_neg h]
   ·refine .now fun m => ?_
    rw [show run_q9 K0 (m + 1) = s_q9_2 (run_q9 K0 m) K0 from rfl]
    unfold s_q9_2 gs_q9_2 lrow
    rw [br_eq rfl, br_pos (by omega), br_pos (by omega), Int.toNat_natCast, getD_of 0 hab, br_eq' h1, if_neg (by rw [List.getElem?_eq_getElem hab]; simp [h1])]
    rfl
  ·refine .now fun m => ?_
   rw [show run_q9 K0 (m + 1) = s_q9_2 (run_q9 K0 m) K0 from rfl]
   unfold s_q9_2 gs_q9_2 lrow
   rw [br_eq rfl, br_neg (by omega), if_neg (by rw [List.getElem?_eq_none (by omega)]; simp)]
   rfl

theorem lrow_eq {R : Type} {b : List Int} (hs : b.length ≤ 17000000) (all : Bool) {r : Rd Nat} (hr : okR b r) (K0 : List Int -> Int -> Int -> List Int -> Option R) :
  l_q9 all b (stA r) (stE r) K0 = K0 b (stA (roR (rowR all b r))) (stE (roR (rowR all b r))) (roV (rowR all b r)) := by
 unfold l_q9
 cases r with
 |inl f =>
  have hf : stE (.inl f) ≠ 0 := hr
  refine evl_eq (.now fun m => ?_)
  unfold e_q9 ge_q9
  rw [show run_q9 K0 (m + 1) = s_q9_2 (run_q9 K0 m) K0 from rfl]
  unfold s_q9_2 gs_q9_2
  rw [br_eq' hf]
  rfl
 |inr a =>
  have ha : a ≤ b.length := hr
  exact evl_eq ((lrow_go hs all K0 (b.length + 1 - a) a [] (by omega) (by simp) (by simp)).same fun m => rfl)

abbrev KT0_qa (R : Type) := Int -> Int -> Int -> Int -> Int -> Int -> (List Int) -> Int -> Int -> (List Int) -> (List Int) -> (List Int) -> (List Int) -> (List Int) -> Option R
abbrev LT_qa := {R : Type} -> Int -> Int -> Int -> (List Int) -> Int -> Int -> (KT0_qa R) -> Option R
abbrev gl_qa (l_q1 : LT_q1) (l_q9 : LT_q9) (l_q8 : LT_q8) {R : Type} (l l_1 l_2 : Int) (o0 : List Int) (o0_1 o0_2 : Int) (K0 : KT0_qa R) : Option R :=
 l_q8 l l_1 l_2 ([] : List Int) (fun r1 r2 r3 r4 r5 r6 r7 r8 => l_q9 false o0 o0_1 o0_2 (fun r9 r10 r11 r12 => l_q1 (ByteArray.mk #[32, 61]) r9 r10 r11 (fun r13 r14 r15 => l_q9 true r13 r14 r15 (fun r16 r17 r18 r19 => l_q1 (ByteArray.mk #[10]) r16 r17 r18 (fun r20 r21 r22 => K0 r1 r3 r4 r5 r6 1 r20 r21 r22 r12 r7 r8 r19 ([] : List Int))))))

def l_qa {R : Type} := @gl_qa @l_q1 @l_q9 @l_q8 R

theorem lmember_eq {R : Type} {b : List Int} (hs : b.length ≤ 17000000) {r : Rd Nat} (hr : okR b r) (k K O : Int) (K0 : Int -> Int -> Int -> Int -> Int -> Int -> List Int -> Int -> Int -> List Int -> List Int -> List Int -> List Int -> List Int -> Option R) :
  l_qa k K O b (stA r) (stE r) K0 = K0 1 k K O 0 1 b (stA (memE b r)) (stE (memE b r)) (roV (memW b r)) [] [] (roV (memO b r)) [] := by
 have hsh : short b := by unfold short; omega
 have e1 : bts (ByteArray.mk #[32, 61]) = [32, 61] := rfl
 have e5 : bts (ByteArray.mk #[10]) = [10] := rfl
 have k1 : okR b (roR (memW b r)) := row_ok hr
 have k2 : okR b (wnt [32, 61] b (roR (memW b r))) := wnt_ok k1
 unfold l_qa gl_qa l_q8
 try dsimp only
 rw [lrow_eq hs false hr]
 try dsimp only
 rw [show rowR false b r = memW b r from rfl, lwant_eq hsh _ (by decide) k1, e1]
 try dsimp only
 rw [show bindR (roR (memW b r)) (wantS [32, 61] b) = wnt [32, 61] b (roR (memW b r)) from rfl, lrow_eq hs true k2]
 try dsimp only
 rw [show rowR true b (wnt [32, 61] b (roR (memW b r))) = memO b r from rfl, lwant_eq hsh _ (by decide) (r := roR (memO b r)) (row_ok k2), e5]
 rfl

abbrev LT_qb := {R : Type} -> Int -> Int -> Int -> Int -> Int -> Int -> (Int -> Int -> Int -> Int -> Int -> Int -> Option R) -> (Int -> Int -> Int -> Int -> Int -> Int -> Option R) -> (Option R) -> Option R
def l_qb {R : Type} (e e_1 e_2 e_3 e_4 e_5 : Int) (K0 : Int -> Int -> Int -> Int -> Int -> Int -> Option R) (K1 : Int -> Int -> Int -> Int -> Int -> Int -> Option R) (K2 : Option R) : Option R :=
 bi (e == 1) (K0 e e_1 e_2 e_3 e_4 e_5) (bi (e == 2) (K1 e e_1 e_2 e_3 e_4 e_5) K2)

abbrev LT_qc := {R : Type} -> Int -> (Bool -> Option R) -> Option R
def l_qc {R : Type} (k : Int) (K0 : Bool -> Option R) : Option R :=
 bi (decide (k ≥ 1)) (K0 (decide (k ≤ 64))) (K0 false)

theorem alpha_eq {R : Type} (k : Int) (K0 : Bool -> Option R) : l_qc k K0 = K0 (decide (1 ≤ k ∧ k ≤ 64)) := by
 unfold l_qc
 by_cases h : k ≥ 1
 ·rw [br_pos h]
  congr 1
  rw [decide_eq_decide]
  omega
 ·rw [br_neg h, decide_eq_false (by omega)]

abbrev LT_qd := {R : Type} -> (List Int) -> Int -> (Int -> Int -> Option R) -> Option R
abbrev GT_qd_6 (R : Type) := (List Int) -> Int -> Int -> Int -> Option R
abbrev gs_qd_6 (l_qc : LT_qc) {R : Type} (g70_6 : GT_qd_6 R) (K0 : Int -> Int -> Option R) (w : List Int) (k x16 x17 : Int) : Option R :=
 bi (decide (x17 < x16)) (bi (decide (0 ≤ x17 ∧ x17 < ((w.length : Nat) : Int))) (bi (decide ((w.getD x17.toNat 0) < 0)) (K0 x17 10) (bi (decide (0 ≤ x17 ∧ x17 < ((w.length : Nat) : Int))) (bi (decide ((w.getD x17.toNat 0) ≥ k)) (K0 x17 10) (g70_6 w k x16 (IntKind.i64.wrap (x17 + 1)))) none)) none) (K0 0 0)

def s_qd_6 {R : Type} := @gs_qd_6 @l_qc R

abbrev ge_qd (l_qc : LT_qc) {R : Type} (g70_6 : GT_qd_6 R) (K0 : Int -> Int -> Option R) (w : List Int) (k : Int) : Option R :=
 l_qc k (fun r1 => bi (!r1) (K0 0 1) (bi (decide ((w.length : Int) > 4096)) (K0 0 2) (g70_6 w k (w.length : Int) 0)))

def e_qd {R : Type} := @ge_qd @l_qc R

def run_qd {R : Type} (K0 : Int -> Int -> Option R) : Nat -> GT_qd_6 R
 |0 => fun _ _ _ _ => none
 |n + 1 => s_qd_6 (run_qd K0 n) K0

def l_qd {R : Type} (w : List Int) (k : Int) (K0 : Int -> Int -> Option R) : Option R := K0 (wordS k w).1 (wordS k w).2

theorem ok_qd {R : Type} (w : List Int) (k : Int) (K0 : Int -> Int -> Option R) {r : R} (h : l_qd w k K0 = some r) : ∃ fuel, e_qd (run_qd K0 fuel) K0 w k = some r := by
 refine ⟨w.length + 1, ?_⟩
 rw [← h]
 unfold l_qd e_qd ge_qd l_qc wordS
 by_cases h1 : 1 ≤ k
 ·rw [br_pos (by omega)]
  by_cases h2 : k ≤ 64
  ·rw [decide_eq_true h2, if_neg (by omega)]
   show bi false _ _ = _
   rw [br_ff]
   by_cases h3 : w.length > 4096
   ·rw [br_pos (by omega), if_pos h3]
   ·rw [br_neg (by omega), if_neg h3]
    have key := scan_all (F := fun m i => run_qd K0 m w k (w.length : Int) (i : Int)) (outside k) (l := w) (A := fun i => K0 i 10) (B := K0 0 0)
     (fun m => by
      show s_qd_6 _ _ _ _ _ _ = _
      unfold s_qd_6 gs_qd_6
      rw [br_neg (by omega)])
     (fun m i hi => by
      show s_qd_6 _ _ _ _ _ _ = _
      unfold s_qd_6 gs_qd_6
      rw [br_pos (by omega), br_pos (by omega), br_pos (p := 0 ≤ (i : Int) ∧ (i : Int) < ((w.length : Nat) : Int)) (by omega), Int.toNat_natCast, getD_of 0 hi, wr _ (by omega) (by omega)]
      unfold outside
      cases decide (w[i] < 0) <;> cases decide (w[i] ≥ k) <;> rfl)
    refine key.trans ?_
    cases findP (outside k) w <;> rfl
  ·rw [decide_eq_false h2, if_pos (by omega)]
   rfl
 ·rw [br_neg (by omega), if_pos (by omega)]
  rfl

abbrev LT_qe := {R : Type} -> Int -> (List Int) -> (List Int) -> ((List Int) -> Option R) -> (Option R) -> ((List Int) -> Option R) -> (Option R) -> Option R
def l_qe {R : Type} (a : Int) (a_1 a_2 : List Int) (K0 : (List Int) -> Option R) (K1 : Option R) (K2 : (List Int) -> Option R) (K3 : Option R) : Option R :=
 bi (a == 1) (K0 a_1) (bi (a == 2) K1 (bi (a == 3) (K2 a_2) K3))

abbrev LT_qf := {R : Type} -> Int -> Int -> (Bool -> Int -> Option R) -> Option R
def l_qf {R : Type} (o o0 : Int) (K0 : Bool -> Int -> Option R) : Option R :=
 bi (decide (o < 0)) (K0 true o0) (K0 (decide (o ≥ o0)) o0)

abbrev LT_qg := {R : Type} -> (List Int) -> Int -> (Int -> Int -> Option R) -> Option R
abbrev GT_qg_2 (R : Type) := (List Int) -> Int -> Int -> Int -> Option R
abbrev gs_qg_2 (l_qf : LT_qf) {R : Type} (g115_2 : GT_qg_2 R) (K0 : Int -> Int -> Option R) (s : List Int) (x7 x8 o0 : Int) : Option R :=
 bi (decide (x8 < x7)) (bi (decide (0 ≤ x8 ∧ x8 < ((s.length : Nat) : Int))) (l_qf (s.getD x8.toNat 0) o0 (fun r1 r2 => bi r1 (K0 x8 r2) (g115_2 s x7 (IntKind.i64.wrap (x8 + 1)) r2))) none) (K0 (-1) o0)

def s_qg_2 {R : Type} := @gs_qg_2 @l_qf R

abbrev ge_qg (l_qf : LT_qf) {R : Type} (g115_2 : GT_qg_2 R) (K0 : Int -> Int -> Option R) (s : List Int) (o0 : Int) : Option R :=
 g115_2 s (s.length : Int) 0 o0

def e_qg {R : Type} := @ge_qg @l_qf R

def run_qg {R : Type} (K0 : Int -> Int -> Option R) : Nat -> GT_qg_2 R
 |0 => fun _ _ _ _ => none
 |n + 1 => s_qg_2 (run_qg K0 n) K0

def l_qg {R : Type} (s : List Int) (o0 : Int) (K0 : Int -> Int -> Option R) : Option R :=
 bi (decide (short s)) (match findP (outside o0) s with | some i => K0 (i : Int) o0 | none => K0 (-1) o0) none

theorem ok_qg {R : Type} (s : List Int) (o0 : Int) (K0 : Int -> Int -> Option R) {r : R} (h : l_qg s o0 K0 = some r) : ∃ fuel, e_qg (run_qg K0 fuel) K0 s o0 = some r := by
 unfold l_qg at h
 rcases bi_some h with ⟨hs, h⟩ | ⟨_, h⟩
 ·have hs : s.length < 4611686018427387904 := of_decide_eq_true hs
  refine ⟨s.length + 1, ?_⟩
  rw [← h]
  unfold e_qg ge_qg
  exact scan_all (F := fun m i => run_qg K0 m s (s.length : Int) (i : Int) o0) (outside o0) (l := s) (A := fun i => K0 (i : Int) o0) (B := K0 (-1) o0)
   (fun m => by
    dsimp only [run_qg]
    unfold s_qg_2 gs_qg_2
    rw [br_neg (by omega)])
   (fun m i hi => by
    dsimp only [run_qg]
    unfold s_qg_2 gs_qg_2 l_qf
    rw [br_pos (by omega), br_pos (by omega), Int.toNat_natCast, getD_of 0 hi, wr _ (by omega) (by omega)]
    unfold outside
    cases decide (s[i] < 0) <;> cases decide (s[i] ≥ o0) <;> rfl)
 ·cases h


abbrev LT_qi := {R : Type} -> (List Int) -> Int -> (Bool -> Int -> Option R) -> Option R
abbrev gl_qi (l_qg : LT_qg) {R : Type} (s : List Int) (o0 : Int) (K0 : Bool -> Int -> Option R) : Option R :=
 l_qg s o0 (fun r1 r2 => K0 (decide (r1 ≥ 0)) r2)

def l_qi {R : Type} := @gl_qi @l_qg R

theorem contains_eq {R : Type} {s : List Int} (h : short s) (o0 : Int) (K0 : Bool -> Int -> Option R) : l_qi s o0 K0 = K0 (!decide (findP (outside o0) s = none)) o0 := by
 unfold l_qi gl_qi l_qg
 rw [br_pos h]
 cases hf : findP (outside o0) s with
 |none => rfl
 |some i =>
  have e1 : decide ((i : Int) ≥ 0) = true := decide_eq_true (by omega)
  simp only [e1]
  rfl

abbrev LT_qk := {R : Type} -> Int -> (List Int) -> Int -> Int -> Int -> Int -> (List Int) -> (List Int) -> (List Int) -> (Bool -> Option R) -> Option R
abbrev gl_qk (l_qi : LT_qi) {R : Type} (q : Int) (q_1 : List Int) (q_2 q_3 q_4 q_5 : Int) (q_6 q_7 out : List Int) (K0 : Bool -> Option R) : Option R :=
 bi (q_2 == 1) (bi ((out.length : Int) == 1) (l_qi out 2 (fun r1 r2 => K0 (!r1))) (K0 false)) (bi (q_2 == 2) (bi ((out.length : Int) == (q_1.length : Int)) (l_qi out q_4 (fun r3 r4 => K0 (!r3))) (K0 false)) (K0 false))

def l_qk {R : Type} := @gl_qk @l_qi R

abbrev LT_ql := {R : Type} -> Int -> (List Int) -> Int -> Int -> Int -> Int -> (List Int) -> (List Int) -> Int -> (List Int) -> (List Int) -> (Int -> Option R) -> Option R
abbrev gl_ql (l_qk : LT_qk) (l_qd : LT_qd) (l_qe : LT_qe) {R : Type} (q : Int) (q_1 : List Int) (q_2 q_3 q_4 q_5 : Int) (q_6 q_7 : List Int) (a : Int) (a_1 a_2 : List Int) (K0 : Int -> Option R) : Option R :=
 bi (q != 1) (bi (q != 2) (K0 30) (l_qe a a_1 a_2 (fun r1 => bi (q == 1) (bi ((a_2.length : Int) == 0) (l_qk q q_1 q_2 q_3 q_4 q_5 q_6 q_7 r1 (fun r2 => bi (!r2) (K0 100) (K0 0))) (K0 100)) (K0 100)) (bi (q == 2) (bi (!((IntKind.i64.wrap ((a_2.length : Int) + (a_1.length : Int))) == 0)) (K0 100) (K0 0)) (K0 100)) (fun r3 => l_qd r3 q_3 (fun r4 r5 => bi (q == 2)
 (bi ((a_1.length : Int) == 0) (bi (!(r5 == 0)) (K0 100) (K0 0)) (K0 100)) (K0 100))) (K0 100))) (l_qe a a_1 a_2 (fun r6 => bi (q == 1) (bi ((a_2.length : Int) == 0) (l_qk q q_1 q_2 q_3 q_4 q_5 q_6 q_7 r6 (fun r7 => bi (!r7) (K0 100) (K0 0))) (K0 100)) (K0 100)) (bi (q == 2) (bi (!((IntKind.i64.wrap ((a_2.length : Int) + (a_1.length : Int))) == 0)) (K0 100) (K0 0)) (K0 100))
 (fun r8 => l_qd r8 q_3 (fun r9 r10 => bi (q == 2) (bi ((a_1.length : Int) == 0) (bi (!(r10 == 0)) (K0 100) (K0 0)) (K0 100)) (K0 100))) (K0 100))

def l_ql {R : Type} := @gl_ql @l_qk @l_qd @l_qe R

theorem tcheck_eq {R : Type} {q : Int} {q_1 : List Int} {q_2 q_3 q_4 q_5 : Int} {q_6 q_7 : List Int} {a : Int} {a_1 a_2 : List Int} (h : a_1.length ≤ 17592186044000) (h2 : a_2.length ≤ 17592186044000) (K0 : Int -> Option R) :
  l_ql q q_1 q_2 q_3 q_4 q_5 q_6 q_7 a a_1 a_2 K0 = K0 (teachC q q_1 q_2 q_3 q_4 a a_1 a_2) := by
 unfold l_ql gl_ql l_qe l_qk gl_qk l_qd teachC
 have hs : short a_1 := by unfold short; omega
 simp only [contains_eq hs]
 rw [wr _ (by omega) (by omega)]
 simp only [br_if, bne_iff_ne, beq_iff_eq, decide_eq_true_eq, ne_eq, Bool.not_not]
 generalize (wordS q_3 a_2).2 = c
 have e0 : ((a_2.length : Int) + (a_1.length : Int) = 0) = (a_2.length = 0 ∧ a_1.length = 0) := propext (by omega)
 have e1 : ((a_1.length : Int) = 0) = (a_1.length = 0) := propext (by omega)
 have e2 : ((a_2.length : Int) = 0) = (a_2.length = 0) := propext (by omega)
 have e4 : ((a_1.length : Int) = 1) = (a_1.length = 1) := propext (by omega)
 have e5 : ((a_1.length : Int) = (q_1.length : Int)) = (a_1.length = q_1.length) := propext (by omega)
 unfold allIn
 simp only [Bool.not_eq_true', beq_eq_false_iff_ne, ne_eq, e0, e1, e2, e4, e5]
 by_cases h1 : q = 1
 ·subst h1
  by_cases h2 : a = 1 <;> by_cases h22 : a = 2 <;> by_cases h3 : a_2.length = 0 <;> by_cases h4 : q_2 = 1 <;> by_cases h5 : q_2 = 2 <;> by_cases h6 : a_1.length = 1 <;> by_cases h7 : a_1.length = q_1.length <;> simp_all <;> (try (split <;> rfl))
 ·by_cases h2 : q = 2
  ·subst h2
   by_cases h2 : a_1.length = 0 <;> by_cases h3 : a_2.length = 0 <;> by_cases h4 : a = 1 <;> by_cases h5 : a = 2 <;> by_cases h52 : a = 3 <;> by_cases h6 : c = 0 <;> simp_all
  ·simp_all

abbrev LT_qm := {R : Type} -> Int -> (List Int) -> Int -> Int -> Int -> Int -> (List Int) -> (List Int) -> Int -> (List Int) -> (List Int) -> Int -> Int -> Int -> (Int -> Option R) -> Option R
abbrev gl_qm (l_ql : LT_ql) (l_q8 : LT_q8) (l_qd : LT_qd) {R : Type} (r : Int) (r_1 : List Int) (r_2 r_3 r_4 r_5 : Int) (r_6 r_7 : List Int) (r_8 : Int) (r_9 r_10 : List Int) (l l_1 l_2 : Int) (K0 : Int -> Option R) : Option R :=
 l_qd r_1 l_1 (fun r1 r2 => bi (r2 != 0) (K0 r2) (l_q8 l l_1 l_2 r_1 (fun r3 r4 r5 r6 r7 r8 r9 r10 => l_ql r3 r4 r5 r6 r7 r8 r9 r10 r_8 r_9 r_10 (fun r11 => K0 r11))))

def l_qm {R : Type} := @gl_qm @l_ql @l_q8 @l_qd R

theorem askF_eq {R : Type} {k K O : Int} {w : List Int} {x1 x2 x3 x4 : Int} {x5 x6 : List Int} {q a : Int} {o v : List Int} (h : o.length ≤ 17592186044000) (h2 : v.length ≤ 17592186044000) (K0 : Int -> Option R) :
  l_qm q w x1 x2 x3 x4 x5 x6 a o v k K O K0 = K0 (askF k K O w a o v) := by
 unfold l_qm gl_qm l_qd l_q8 askF
 try dsimp only
 by_cases c : (wordS K w).2 = 0
 ·rw [br_ne' c, if_neg (by simpa using c), tcheck_eq h h2]
 ·rw [br_ne c, if_pos c]

abbrev LT_qn := {R : Type} -> Int -> Int -> Int -> Int -> (List Int) -> (List Int) -> (Int -> Option R) -> Option R
def l_qn {R : Type} (m m_1 m_2 m_3 : Int) (m_4 m_5 : List Int) (K0 : Int -> Option R) : Option R :=
 bi (m == 1) (K0 m_3) (K0 (IntKind.i64.wrap (m_3 * m_1)))

abbrev LT_qo := {R : Type} -> Int -> Int -> Int -> Int -> (List Int) -> (List Int) -> (Int -> Option R) -> Option R
abbrev gl_qo (l_qn : LT_qn) {R : Type} (m m_1 m_2 m_3 : Int) (m_4 m_5 : List Int) (K0 : Int -> Option R) : Option R :=
 bi (m != 1) (bi (m != 2) (K0 30) (bi (decide (m_1 < 1)) (K0 1) (bi (decide (m_1 > 64)) (K0 1) (bi (m == 1) (bi (m_2 != 2) (K0 33) (bi (decide (m_2 < 1)) (K0 33) (bi (decide (m_2 > 64)) (K0 33) (bi (decide (m_3 < 1)) (K0 3) (bi (decide (m_3 > 1024)) (K0 3) (bi ((m_4.length : Int) != (IntKind.i64.wrap (m_3 * m_1))) (K0 31) (l_qn m m_1 m_2 m_3 m_4 m_5 (fun r1 =>
 bi ((m_5.length : Int) != r1) (K0 31) (K0 0))))))))) (bi (decide (m_2 < 1)) (K0 33) (bi (decide (m_2 > 64)) (K0 33) (bi (decide (m_3 < 1)) (K0 3) (bi (decide (m_3 > 1024)) (K0 3) (bi ((m_4.length : Int) != (IntKind.i64.wrap (m_3 * m_1))) (K0 31) (l_qn m m_1 m_2 m_3 m_4 m_5 (fun r2 => bi ((m_5.length : Int) != r2) (K0 31) (K0 0)))))))))))) (bi (decide (m_1 < 1)) (K0 1)
 (bi (decide (m_1 > 64)) (K0 1) (bi (m == 1) (bi (m_2 != 2) (K0 33) (bi (decide (m_2 < 1)) (K0 33) (bi (decide (m_2 > 64)) (K0 33) (bi (decide (m_3 < 1)) (K0 3) (bi (decide (m_3 > 1024)) (K0 3) (bi ((m_4.length : Int) != (IntKind.i64.wrap (m_3 * m_1))) (K0 31) (l_qn m m_1 m_2 m_3 m_4 m_5 (fun r3 => bi ((m_5.length : Int) != r3) (K0 31) (K0 0))))))))) (bi (decide (m_2 < 1)) (K0 33)
 (bi (decide (m_2 > 64)) (K0 33) (bi (decide (m_3 < 1)) (K0 3) (bi (decide (m_3 > 1024)) (K0 3) (bi ((m_4.length : Int) != (IntKind.i64.wrap (m_3 * m_1))) (K0 31) (l_qn m m_1 m_2 m_3 m_4 m_5 (fun r4 => bi ((m_5.length : Int) != r4) (K0 31) (K0 0)))))))))))

def l_qo {R : Type} := @gl_qo @l_qn R

theorem head_eq {R : Type} (k K O N : Int) (nx ou : List Int) (K0 : Int -> Option R) : l_qo k K O N nx ou K0 = K0 (headS k K O N nx ou) := by
 unfold l_qo gl_qo l_qn headS
 simp only [br_if, bne_iff_ne, beq_iff_eq, decide_eq_true_eq, ne_eq]
 by_cases hb : (1 ≤ N ∧ N ≤ 1024) ∧ 1 ≤ K ∧ K ≤ 64
 ·have := mulK hb
  rw [wr (N * K) (by omega) (by omega)]
  repeat' (refine ite_l (fun _ => ?_) (fun _ => ?_))
  all_goals
   refine congrArg K0 ?_
   repeat' (refine ite_r (fun _ => ?_) (fun _ => ?_))
   all_goals omega
 ·repeat' (refine ite_l (fun _ => ?_) (fun _ => ?_))
  all_goals
   refine congrArg K0 ?_
   repeat' (refine ite_r (fun _ => ?_) (fun _ => ?_))
   all_goals omega

abbrev LT_qp := {R : Type} -> (List Int) -> Int -> (Int -> Option R) -> Option R
abbrev GT_qp_2 (R : Type) := (List Int) -> Int -> Int -> Int -> Option R
def s_qp_2 {R : Type} (g79_2 : GT_qp_2 R) (K0 : Int -> Option R) (l : List Int) (n x7 x8 : Int) : Option R :=
 bi (decide (x8 < x7)) (bi (decide (0 ≤ x8 ∧ x8 < ((l.length : Nat) : Int))) (bi (decide ((IntKind.u64.wrap (l.getD x8.toNat 0)) ≥ (IntKind.u64.wrap n))) (K0 x8) (g79_2 l n x7 (IntKind.i64.wrap (x8 + 1)))) none) (K0 (-1))

def e_qp {R : Type} (g79_2 : GT_qp_2 R) (K0 : Int -> Option R) (l : List Int) (n : Int) : Option R :=
 g79_2 l n (l.length : Int) 0

def run_qp {R : Type} (K0 : Int -> Option R) : Nat -> GT_qp_2 R
 |0 => fun _ _ _ _ => none
 |n + 1 => s_qp_2 (run_qp K0 n) K0

def l_qp {R : Type} (l : List Int) (n : Int) (K0 : Int -> Option R) : Option R := bi (decide (short l)) (K0 (beyondS n l)) none

theorem ok_qp {R : Type} (l : List Int) (n : Int) (K0 : Int -> Option R) {r : R} (h : l_qp l n K0 = some r) : ∃ fuel, e_qp (run_qp K0 fuel) K0 l n = some r := by
 unfold l_qp at h
 rcases bi_some h with ⟨hs, h⟩ | ⟨_, h⟩
 ·have hs : l.length < 4611686018427387904 := of_decide_eq_true hs
  refine ⟨l.length + 1, ?_⟩
  rw [← h]
  have key := scan_all (F := fun m i => run_qp K0 m l n (l.length : Int) (i : Int)) (bad n) (l := l) (A := fun i => K0 i) (B := K0 (-1))
   (fun m => by
    show s_qp_2 _ _ _ _ _ _ = _
    unfold s_qp_2
    rw [br_neg (by omega)])
   (fun m i hi => by
    show s_qp_2 _ _ _ _ _ _ = _
    unfold s_qp_2
    rw [br_pos (by omega), br_pos (by omega), br_if, Int.toNat_natCast, getD_of 0 hi, wr _ (by omega) (by omega)]
    rfl)
  unfold e_qp beyondS
  refine key.trans ?_
  cases findP (bad n) l <;> rfl
 ·cases h

abbrev LT_qq := {R : Type} -> Int -> Int -> Int -> Int -> (List Int) -> (List Int) -> (Int -> Int -> Option R) -> Option R
abbrev gl_qq (l_qp : LT_qp) (l_qo : LT_qo) {R : Type} (m m_1 m_2 m_3 : Int) (m_4 m_5 : List Int) (K0 : Int -> Int -> Option R) : Option R :=
 l_qo m m_1 m_2 m_3 m_4 m_5 (fun r1 => bi (r1 != 0) (K0 0 r1) (l_qp m_4 m_3 (fun r2 => bi (decide (r2 ≥ 0)) (K0 r2 32) (l_qp m_5 m_2 (fun r3 => bi (decide (r3 ≥ 0)) (K0 r3 33) (K0 0 0))))))

def l_qq {R : Type} := @gl_qq @l_qp @l_qo R

theorem check_eq {R : Type} (k K O N : Int) (nx ou : List Int) (h1 : short nx) (h2 : short ou) (K0 : Int -> Int -> Option R) :
  l_qq k K O N nx ou K0 = K0 (checkS k K O N nx ou).1 (checkS k K O N nx ou).2 := by
 unfold l_qq gl_qq checkS l_qp beyondS
 rw [head_eq]
 by_cases h : headS k K O N nx ou = 0
 ·rw [br_ne' h, if_neg (by simpa using h), br_pos h1]
  cases hf : findP (bad N) nx with
  |some i => simp only [br_pos (show ((i : Nat) : Int) ≥ 0 by omega)]
  |none =>
   simp only [br_neg (show ¬ ((-1 : Int) ≥ 0) by omega), br_pos h2]
   cases hg : findP (bad O) ou with
   |some i => simp only [br_pos (show ((i : Nat) : Int) ≥ 0 by omega)]
   |none => simp only [br_neg (show ¬ ((-1 : Int) ≥ 0) by omega)]
 ·rw [br_ne h, if_pos (by simpa using h)]

abbrev LT_qr := {R : Type} -> Int -> Int -> Int -> Int -> Int -> Int -> Int -> (List Int) -> (List Int) -> (Int -> Option R) -> Option R
def l_qr {R : Type} (l l_1 l_2 m m_1 m_2 m_3 : Int) (m_4 m_5 : List Int) (K0 : Int -> Option R) : Option R :=
 bi (m != l) (K0 30) (bi (m_1 != l_1) (K0 1) (bi (m_2 != l_2) (K0 33) (K0 0)))

theorem alike_eq {R : Type} {k K O k' K' O' N' : Int} {nx ou : List Int} (K0 : Int -> Option R) :
  l_qr k K O k' K' O' N' nx ou K0 = K0 (alikeS k K O k' K' O') := by
 unfold l_qr alikeS
 by_cases c1 : k' = k
 ·rw [br_ne' c1, if_neg (by simpa using c1)]
  by_cases c2 : K' = K
  ·rw [br_ne' c2, if_neg (by simpa using c2)]
   by_cases c3 : O' = O
   ·rw [br_ne' c3, if_neg (by simpa using c3)]
   ·rw [br_ne c3, if_pos c3]
  ·rw [br_ne c2, if_pos c2]
 ·rw [br_ne c1, if_pos c1]

abbrev LT_qs := {R : Type} -> Int -> (List Int) -> Int -> Int -> Int -> Int -> (List Int) -> (List Int) -> Int -> (List Int) -> (List Int) -> Int -> Int -> Int -> (Int -> Option R) -> Option R
abbrev gl_qs (l_ql : LT_ql) (l_qr : LT_qr) (l_qq : LT_qq) {R : Type} (r : Int) (r_1 : List Int) (r_2 r_3 r_4 r_5 : Int) (r_6 r_7 : List Int) (r_8 : Int) (r_9 r_10 : List Int) (l l_1 l_2 : Int) (K0 : Int -> Option R) : Option R :=
 l_qq r_2 r_3 r_4 r_5 r_6 r_7 (fun r1 r2 => bi (r2 != 0) (K0 r2) (l_qr l l_1 l_2 r_2 r_3 r_4 r_5 r_6 r_7 (fun r3 => bi (r3 != 0) (K0 r3) (l_ql 2 ([] : List Int) r_2 r_3 r_4 r_5 r_6 r_7 r_8 r_9 r_10 (fun r4 => K0 r4)))))

def l_qs {R : Type} := @gl_qs @l_ql @l_qr @l_qq R

theorem tstF_eq {R : Type} {k K O k' K' O' N' : Int} {nx ou : List Int} {q : Int} {w : List Int} {a : Int} {o v : List Int} (s1 : short nx) (s2 : short ou) (h : o.length ≤ 17592186044000) (h2 : v.length ≤ 17592186044000) (K0 : Int -> Option R) :
  l_qs q w k' K' O' N' nx ou a o v k K O K0 = K0 (tstF k K O k' K' O' N' nx ou a o v) := by
 unfold l_qs gl_qs tstF
 rw [check_eq _ _ _ _ _ _ s1 s2]
 try dsimp only
 by_cases c : (checkS k' K' O' N' nx ou).2 = 0
 ·rw [br_ne' c, if_neg (by simpa using c), alike_eq]
  try dsimp only
  by_cases d : alikeS k K O k' K' O' = 0
  ·rw [br_ne' d, if_neg (by simpa using d), tcheck_eq h h2]
  ·rw [br_ne d, if_pos d]
 ·rw [br_ne c, if_pos c]

abbrev LT_qt := {R : Type} -> (List Int) -> (List Int) -> (Int -> Option R) -> Option R
/-- bytes.Index -/
def l_qt {R : Type} (s sep : List Int) (K0 : Int -> Option R) : Option R := l_bytesIndex s sep K0

abbrev LT_qu := {R : Type} -> ByteArray -> (List Int) -> Int -> ((List Int) -> Int -> Int -> Int -> Option R) -> ((List Int) -> Int -> Option R) -> Option R
abbrev GT_qu_1 (R : Type) := ByteArray -> Int -> (List Int) -> Int -> Option R
def s_qu_1 {R : Type} (g103_1 : GT_qu_1 R) (K0 : (List Int) -> Int -> Int -> Int -> Option R) (K1 : (List Int) -> Int -> Option R) (s : ByteArray) (i : Int) (o0 : List Int) (o0_1 : Int) : Option R :=
 bi (decide (i < (s.size : Int))) (bi (o0_1 == (o0.length : Int)) (K0 o0 o0_1 6 o0_1) (bi (decide (0 ≤ o0_1 ∧ o0_1 < ((o0.length : Nat) : Int))) (bi (decide (0 ≤ i ∧ i < ((s.size : Nat) : Int))) (bi ((o0.getD o0_1.toNat 0) != ((s.data.toList.getD i.toNat 0).toNat : Int)) (K0 o0 o0_1 6 o0_1) (g103_1 s (IntKind.i64.wrap (i + 1)) o0 (IntKind.i64.wrap (o0_1 + 1)))) none) none)) (K1 o0 o0_1)

def e_qu {R : Type} (g103_1 : GT_qu_1 R) (K0 : (List Int) -> Int -> Int -> Int -> Option R) (K1 : (List Int) -> Int -> Option R) (s : ByteArray) (o0 : List Int) (o0_1 : Int) : Option R :=
 g103_1 s 0 o0 o0_1

def run_qu {R : Type} (K0 : (List Int) -> Int -> Int -> Int -> Option R) (K1 : (List Int) -> Int -> Option R) : Nat -> GT_qu_1 R
 |0 => fun _ _ _ _ => none
 |n + 1 => s_qu_1 (run_qu K0 K1 n) K0 K1

def l_qu {R : Type} (s : ByteArray) (o0 : List Int) (o0_1 : Int) (K0 : (List Int) -> Int -> Int -> Int -> Option R) (K1 : (List Int) -> Int -> Option R) : Option R := evl fun fuel => e_qu (run_qu K0 K1 fuel) K0 K1 s o0 o0_1

theorem want_run {R : Type} {b : List Int} (hs : short b) (s : ByteArray) (hz : s.size ≤ 1000) (K0 : List Int -> Int -> Int -> Int -> Option R) (K1 : List Int -> Int -> Option R) :
  ∀ (d i a : Nat), i + d = s.size -> a ≤ b.length →
   Reach (fun m => run_qu K0 K1 m s (i : Int) b (a : Int)) (match wantS ((bts s).drop i) b a with | .inl e => K0 b e.2 e.1 e.2 | .inr c => K1 b (c : Int)) := by
 have hl : (bts s).length = s.size := by simp [bts]
 unfold short at hs
 intro d
 induction d with
 |zero =>
  intro i a hi ha
  refine .now fun m => ?_
  rw [show run_qu K0 K1 (m + 1) = s_qu_1 (run_qu K0 K1 m) K0 K1 from rfl]
  unfold s_qu_1
  rw [br_neg (by omega), List.drop_of_length_le (by omega)]
  rfl
 |succ d ih =>
  intro i a hi ha
  have hlt : i < (bts s).length := by omega
  have hget : (bts s)[i] = ((s.data.toList.getD i 0).toNat : Int) := by
   simp [bts, List.getD_eq_getElem?_getD, List.getElem?_eq_getElem (show i < s.data.toList.length by simpa [bts] using hlt)]
  rw [List.drop_eq_getElem_cons hlt, hget]
  unfold wantS
  by_cases h1 : a = b.length
  ·refine .now fun m => ?_
   rw [show run_qu K0 K1 (m + 1) = s_qu_1 (run_qu K0 K1 m) K0 K1 from rfl]
   unfold s_qu_1
   rw [br_pos (by omega), br_eq (by omega), if_neg (by rw [List.getElem?_eq_none (by omega)]; simp)]
  ·have hab : a < b.length := by omega
   by_cases h2 : b[a] = ((s.data.toList.getD i 0).toNat : Int)
   ·rw [if_pos (by rw [List.getElem?_eq_getElem hab, h2])]
    refine .step (fun m => ?_) (ih (i + 1) (a + 1) (by omega) (by omega))
    rw [show run_qu K0 K1 (m + 1) = s_qu_1 (run_qu K0 K1 m) K0 K1 from rfl]
    unfold s_qu_1
    rw [br_pos (by omega), br_eq' (by omega), br_pos (by omega), br_pos (by omega), Int.toNat_natCast, Int.toNat_natCast, getD_of 0 hab, br_ne' h2, wr ((i : Int) + 1) (by omega) (by omega), wr ((a : Int) + 1) (by omega) (by omega)]
    rfl
   ·rw [if_neg (by rw [List.getElem?_eq_getElem hab]; simpa using h2)]
    refine .now fun m => ?_
    rw [show run_qu K0 K1 (m + 1) = s_qu_1 (run_qu K0 K1 m) K0 K1 from rfl]
    unfold s_qu_1
    rw [br_pos (by omega), br_eq' (by omega), br_pos (by omega), br_pos (by omega), Int.toNat_natCast, Int.toNat_natCast, getD_of 0 hab, br_ne h2]

theorem want_ok {R : Type} {b : List Int} (hs : short b) {s : ByteArray} (hz : s.size ≤ 1000) {a c : Nat} (ha : a ≤ b.length) (h : wantS (bts s) b a = .inr c) (K0 : List Int -> Int -> Int -> Int -> Option R) (K1 : List Int -> Int -> Option R) :
  l_qu s b (a : Int) K0 K1 = K1 b (c : Int) := by
 refine evl_eq (Reach.of_eq (want_run hs s hz K0 K1 s.size 0 a (by omega) ha) ?_)
 rw [List.drop_zero, h]

theorem want_bad {R : Type} {b : List Int} (hs : short b) {s : ByteArray} (hz : s.size ≤ 1000) {a : Nat} {e : Int × Int} (ha : a ≤ b.length) (h : wantS (bts s) b a = .inl e) (K0 : List Int -> Int -> Int -> Int -> Option R) (K1 : List Int -> Int -> Option R) :
  l_qu s b (a : Int) K0 K1 = K0 b e.2 e.1 e.2 := by
 refine evl_eq (Reach.of_eq (want_run hs s hz K0 K1 s.size 0 a (by omega) ha) ?_)
 rw [List.drop_zero, h]

abbrev LT_qw := {R : Type} -> Int -> Int -> Int -> (List Int) -> Int -> Int -> Int -> (Int -> (List Int) -> Int -> Int -> Int -> Option R) -> Option R
def l_qw {R : Type} (low high kind : Int) (o0 : List Int) (o0_1 o1 o1_1 : Int) (K0 : Int -> (List Int) -> Int -> Int -> Int -> Option R) : Option R :=
 K0 0 o0 o0_1 o1 o1_1

theorem numf_eq {R : Type} (lo hi kd : Int) (b : List Int) (a k p : Int) (K0 : Int -> List Int -> Int -> Int -> Int -> Option R) : l_qw lo hi kd b a k p K0 = K0 0 b a k p := rfl

abbrev LT_qy := {R : Type} -> ByteArray -> (List Int) -> Int -> Int -> Int -> ((List Int) -> Int -> Int -> Int -> Option R) -> Option R
abbrev GT_qy_1 (R : Type) := ByteArray -> Int -> (List Int) -> Int -> Int -> Int -> Option R
def s_qy_1 {R : Type} (g103b_1 : GT_qy_1 R) (K0 : (List Int) -> Int -> Int -> Int -> Option R) (s : ByteArray) (i : Int) (o0 : List Int) (o0_1 o1 o1_1 : Int) : Option R :=
 bi (decide (i < (s.size : Int))) (K0 o0 o0_1 o1 o1_1) (K0 o0 o0_1 o1 o1_1)

def e_qy {R : Type} (g103b_1 : GT_qy_1 R) (K0 : (List Int) -> Int -> Int -> Int -> Option R) (s : ByteArray) (o0 : List Int) (o0_1 o1 o1_1 : Int) : Option R :=
 g103b_1 s 0 o0 o0_1 o1 o1_1

def run_qy {R : Type} (K0 : (List Int) -> Int -> Int -> Int -> Option R) : Nat -> GT_qy_1 R
 |0 => fun _ _ _ _ _ _ => none
 |n + 1 => s_qy_1 (run_qy K0 n) K0

def l_qy {R : Type} (s : ByteArray) (o0 : List Int) (o0_1 o1 o1_1 : Int) (K0 : (List Int) -> Int -> Int -> Int -> Option R) : Option R := evl fun fuel => e_qy (run_qy K0 fuel) K0 s o0 o0_1 o1 o1_1

theorem wantf_eq {R : Type} (s : ByteArray) (b : List Int) (a k p : Int) (K0 : List Int -> Int -> Int -> Int -> Option R) : l_qy s b a k p K0 = K0 b a k p := by
 refine evl_eq (.now fun m => ?_)
 unfold e_qy
 rw [show run_qy K0 (m + 1) = s_qy_1 (run_qy K0 m) K0 from rfl]
 unfold s_qy_1
 exact br_same _

abbrev LT_qz := {R : Type} -> Int -> Int -> Int -> (List Int) -> Int -> (Int -> (List Int) -> Int -> Int -> Int -> Option R) -> (Int -> (List Int) -> Int -> Option R) -> Option R
abbrev gl_qz (l_q5 : LT_q5) {R : Type} (low high kind : Int) (o0 : List Int) (o0_1 : Int) (K0 : Int -> (List Int) -> Int -> Int -> Int -> Option R) (K1 : Int -> (List Int) -> Int -> Option R) : Option R :=
 l_q5 o0 o0_1 (fun r1 r2 r3 => bi (r3 != 0) (K0 r1 o0 r2 r3 r2) (bi (decide (r1 < low)) (K0 r1 o0 r2 kind o0_1) (bi (decide (r1 > high)) (K0 r1 o0 r2 kind o0_1) (K1 r1 o0 r2))))

def l_qz {R : Type} := @gl_qz @l_q5 R

theorem numS_at {b : List Int} {a : Nat} (ha : a ≤ b.length) : numS b (a : Int) = ((numL (b.drop a)).1, ((a + (numL (b.drop a)).2.1 : Nat) : Int), (numL (b.drop a)).2.2) := by
 unfold numS
 rw [if_neg (by omega), Int.toNat_natCast]
 simp

theorem num_ok {R : Type} {b : List Int} (hs : short b) {lo hi kd : Int} {a : Nat} {q : Int × Nat} (ha : a ≤ b.length) (h : numbS lo hi kd b a = .inr q) (K0 : Int -> List Int -> Int -> Int -> Int -> Option R) (K1 : Int -> List Int -> Int -> Option R) :
  l_qz lo hi kd b (a : Int) K0 K1 = K1 q.1 b (q.2 : Int) := by
 unfold l_qz gl_qz
 rw [number_eq hs, numS_at ha]
 obtain ⟨h1, h2, h3, h4⟩ := numbS_ok h
 rw [h1]
 rw [br_ne' rfl, br_neg (by simp; omega), br_neg (by simp; omega)]
 simp only
 rw [show a + (q.2 - a) = q.2 by omega]

theorem num_bad {R : Type} {b : List Int} (hs : short b) {lo hi kd : Int} {a : Nat} {e : Int × Int} (ha : a ≤ b.length) (h : numbS lo hi kd b a = .inl e) (K0 : Int -> List Int -> Int -> Int -> Int -> Option R) (K1 : Int -> List Int -> Int -> Option R) :
  l_qz lo hi kd b (a : Int) K0 K1 = K0 (numL (b.drop a)).1 b ((a + (numL (b.drop a)).2.1 : Nat) : Int) e.1 e.2 := by
 unfold l_qz gl_qz
 rw [number_eq hs, numS_at ha]
 unfold numbS at h
 by_cases h1 : (numL (b.drop a)).2.2 ≠ 0
 ·rw [if_pos h1] at h
  cases h
  rw [br_ne h1]
 ·rw [if_neg h1] at h
  rw [br_ne' (Decidable.not_not.1 h1)]
  by_cases h2 : (numL (b.drop a)).1 < lo ∨ hi < (numL (b.drop a)).1
  ·rw [if_pos h2] at h
   cases h
   by_cases h3 : (numL (b.drop a)).1 < lo
   ·rw [br_pos h3]
   ·rw [br_neg h3, br_pos (by simp; omega)]
  ·rw [if_neg h2] at h
   cases h

abbrev KT0_q10 (R : Type) := Int -> Int -> Int -> Int -> (List Int) -> Int -> Int -> Int -> (List Int) -> (List Int) -> Option R
abbrev KT1_q10 (R : Type) := Int -> Int -> Int -> Int -> (List Int) -> Int -> (List Int) -> (List Int) -> Option R
abbrev LT_q10 := {R : Type} -> (List Int) -> Int -> (KT0_q10 R) -> (KT1_q10 R) -> Option R
abbrev GT_q10_15a (R : Type) := Int -> (List Int) -> Int -> Int -> Int -> Int -> Int -> Int -> Int -> (List Int) -> (List Int) -> Int -> Int -> Int -> Int -> (List Int) -> (List Int) -> Option R
abbrev GT_q10_15b (R : Type) := Int -> (List Int) -> Int -> Int -> Int -> Int -> Int -> (List Int) -> (List Int) -> Int -> Int -> Int -> Int -> (List Int) -> (List Int) -> Option R
abbrev GT_q10_19a (R : Type) := Int -> (List Int) -> Int -> Int -> Int -> Int -> Int -> Int -> Int -> (List Int) -> (List Int) -> Int -> Int -> Int -> Int -> (List Int) -> (List Int) -> Option R
abbrev GT_q10_19b (R : Type) := Int -> (List Int) -> Int -> Int -> Int -> Int -> Int -> (List Int) -> (List Int) -> Int -> Int -> Int -> Int -> (List Int) -> (List Int) -> Option R
abbrev GT_q10_20a (R : Type) := Int -> Int -> (List Int) -> Int -> Int -> Int -> Int -> Int -> Int -> Int -> (List Int) -> (List Int) -> Int -> Int -> Int -> Int -> (List Int) -> (List Int) -> Option R
abbrev GT_q10_20b (R : Type) := Int -> Int -> (List Int) -> Int -> Int -> Int -> Int -> Int -> (List Int) -> (List Int) -> Int -> Int -> Int -> Int -> (List Int) -> (List Int) -> Option R
abbrev GT_q10_25a (R : Type) := Int -> Int -> (List Int) -> Int -> Int -> Int -> Int -> Int -> Int -> Int -> (List Int) -> (List Int) -> Int -> Int -> Int -> Int -> (List Int) -> (List Int) -> Option R
abbrev GT_q10_25b (R : Type) := Int -> Int -> (List Int) -> Int -> Int -> Int -> Int -> Int -> (List Int) -> (List Int) -> Int -> Int -> Int -> Int -> (List Int) -> (List Int) -> Option R
abbrev GT_q10_21a (R : Type) := Int -> Int -> (List Int) -> Int -> Int -> Int -> Int -> Int -> Int -> Int -> (List Int) -> (List Int) -> Int -> Int -> Int -> Int -> (List Int) -> (List Int) -> Option R
abbrev GT_q10_21b (R : Type) := Int -> Int -> (List Int) -> Int -> Int -> Int -> Int -> Int -> (List Int) -> (List Int) -> Int -> Int -> Int -> Int -> (List Int) -> (List Int) -> Option R
abbrev RT_q10 (R : Type) := GT_q10_15a R × GT_q10_15b R × GT_q10_19a R × GT_q10_19b R × GT_q10_20a R × GT_q10_20b R × GT_q10_25a R × GT_q10_25b R × GT_q10_21a R × GT_q10_21b R
abbrev gs_q10_15a (l_qy : LT_qy) (l_qw : LT_qw) (l_qu : LT_qu) (l_qz : LT_qz) {R : Type} (gg : RT_q10 R) (K0 : KT0_q10 R) (K1 : KT1_q10 R) (s : Int) (o0 : List Int) (o0_1 o1 o1_1 o2 o2_1 o2_2 o2_3 : Int) (o3 o4 : List Int) (o5 o5_1 o5_2 o5_3 : Int) (o6 o7 : List Int) : Option R :=
 bi (decide (s < o5_3)) (K0 o5 o5_1 o5_2 o5_3 o0 o0_1 o1 o1_1 o6 o7) (K0 o5 o5_1 o5_2 o5_3 o0 o0_1 o1 o1_1 o6 o7)

def s_q10_15a {R : Type} := @gs_q10_15a @l_qy @l_qw @l_qu @l_qz R

abbrev gs_q10_15b (l_qy : LT_qy) (l_qw : LT_qw) (l_qu : LT_qu) (l_qz : LT_qz) {R : Type} (gg : RT_q10 R) (K0 : KT0_q10 R) (K1 : KT1_q10 R) (s : Int) (o0 : List Int) (o0_1 o1 o1_1 o1_2 o1_3 : Int) (o2 o3 : List Int) (o4 o4_1 o4_2 o4_3 : Int) (o5 o6 : List Int) : Option R :=
 bi (decide (s < o4_3)) (bi (o4 == 1) (both (l_qz 0 1 33 o0 o0_1 (fun r298 r299 r300 r301 r302 => bi (decide ((o6.length + [r298].length) * 8 ≤ lim)) (gg.2.2.1 s r299 r300 r301 r302 o1 o1_1 o1_2 o1_3 o2 o3 o4 o4_1 o4_2 o4_3 o5 (o6 ++ [r298])) none) (fun r303 r304 r305 => bi (decide ((o6.length + [r303].length) * 8 ≤ lim))
 (gg.2.2.2.1 s r304 r305 o1 o1_1 o1_2 o1_3 o2 o3 o4 o4_1 o4_2 o4_3 o5 (o6 ++ [r303])) none)) (l_qz 0 1 33 o0 o0_1 (fun r298 r299 r300 r301 r302 => twice (bi (decide ((o6.length + [r298].length) * 8 ≤ lim)) (gg.2.2.1 s r299 r300 r301 r302 o1 o1_1 o1_2 o1_3 o2 o3 o4 o4_1 o4_2 o4_3 o5 (o6 ++ [r298])) none)) (fun r303 r304 r305 => twice
 (bi (decide ((o6.length + [r303].length) * 8 ≤ lim)) (gg.2.2.2.1 s r304 r305 o1 o1_1 o1_2 o1_3 o2 o3 o4 o4_1 o4_2 o4_3 o5 (o6 ++ [r303])) none)))) (gg.2.2.2.1 s o0 o0_1 o1 o1_1 o1_2 o1_3 o2 o3 o4 o4_1 o4_2 o4_3 o5 o6)) (bi (decide (o0_1 < (o0.length : Int))) (K0 o4 o4_1 o4_2 o4_3 o0 o0_1 6 o0_1 o5 o6) (K1 o4 o4_1 o4_2 o4_3 o0 o0_1 o5 o6))

def s_q10_15b {R : Type} := @gs_q10_15b @l_qy @l_qw @l_qu @l_qz R

abbrev gs_q10_19a (l_qy : LT_qy) (l_qw : LT_qw) (l_qu : LT_qu) (l_qz : LT_qz) {R : Type} (gg : RT_q10 R) (K0 : KT0_q10 R) (K1 : KT1_q10 R) (s : Int) (o0 : List Int) (o0_1 o1 o1_1 o2 o2_1 o2_2 o2_3 : Int) (o3 o4 : List Int) (o5 o5_1 o5_2 o5_3 : Int) (o6 o7 : List Int) : Option R :=
 gg.2.2.2.2.1 s 0 o0 o0_1 o1 o1_1 o2 o2_1 o2_2 o2_3 o3 o4 o5 o5_1 o5_2 o5_3 o6 o7

def s_q10_19a {R : Type} := @gs_q10_19a @l_qy @l_qw @l_qu @l_qz R

abbrev gs_q10_19b (l_qy : LT_qy) (l_qw : LT_qw) (l_qu : LT_qu) (l_qz : LT_qz) {R : Type} (gg : RT_q10 R) (K0 : KT0_q10 R) (K1 : KT1_q10 R) (s : Int) (o0 : List Int) (o0_1 o1 o1_1 o1_2 o1_3 : Int) (o2 o3 : List Int) (o4 o4_1 o4_2 o4_3 : Int) (o5 o6 : List Int) : Option R :=
 gg.2.2.2.2.2.1 s 0 o0 o0_1 o1 o1_1 o1_2 o1_3 o2 o3 o4 o4_1 o4_2 o4_3 o5 o6

def s_q10_19b {R : Type} := @gs_q10_19b @l_qy @l_qw @l_qu @l_qz R

abbrev gs_q10_20a (l_qy : LT_qy) (l_qw : LT_qw) (l_qu : LT_qu) (l_qz : LT_qz) {R : Type} (gg : RT_q10 R) (K0 : KT0_q10 R) (K1 : KT1_q10 R) (s x : Int) (o0 : List Int) (o0_1 o1 o1_1 o2 o2_1 o2_2 o2_3 : Int) (o3 o4 : List Int) (o5 o5_1 o5_2 o5_3 : Int) (o6 o7 : List Int) : Option R :=
 bi (decide (x < o5_1)) (l_qy (ByteArray.mk #[10]) o0 o0_1 o1 o1_1 (fun r306 r307 r308 r309 => gg.1 (IntKind.i64.wrap (s + 1)) r306 r307 r308 r309 o2 o2_1 o2_2 o2_3 o3 o4 o5 o5_1 o5_2 o5_3 o6 o7)) (l_qy (ByteArray.mk #[10]) o0 o0_1 o1 o1_1 (fun r310 r311 r312 r313 =>
 gg.1 (IntKind.i64.wrap (s + 1)) r310 r311 r312 r313 o2 o2_1 o2_2 o2_3 o3 o4 o5 o5_1 o5_2 o5_3 o6 o7))

def s_q10_20a {R : Type} := @gs_q10_20a @l_qy @l_qw @l_qu @l_qz R

abbrev gs_q10_20b (l_qy : LT_qy) (l_qw : LT_qw) (l_qu : LT_qu) (l_qz : LT_qz) {R : Type} (gg : RT_q10 R) (K0 : KT0_q10 R) (K1 : KT1_q10 R) (s x : Int) (o0 : List Int) (o0_1 o1 o1_1 o1_2 o1_3 : Int) (o2 o3 : List Int) (o4 o4_1 o4_2 o4_3 : Int) (o5 o6 : List Int) : Option R :=
 bi (decide (x < o4_1)) (bi (decide (x > 0)) (l_qu (ByteArray.mk #[32]) o0 o0_1 (fun r314 r315 r316 r317 => both (l_qw 0 (IntKind.i64.wrap (o4_3 - 1)) 32 r314 r315 r316 r317 (fun r318 r319 r320 r321 r322 => bi (decide ((o5.length + [r318].length) * 8 ≤ lim))
 (gg.2.2.2.2.2.2.1 s x r319 r320 r321 r322 o1 o1_1 o1_2 o1_3 o2 o3 o4 o4_1 o4_2 o4_3 (o5 ++ [r318]) o6) none)) (l_qw 0 (IntKind.i64.wrap (o4_3 - 1)) 32 r314 r315 r316 r317 (fun r318 r319 r320 r321 r322 => twice (bi (decide ((o5.length + [r318].length) * 8 ≤ lim)) (gg.2.2.2.2.2.2.1 s x r319 r320 r321 r322 o1 o1_1 o1_2 o1_3 o2 o3 o4 o4_1 o4_2 o4_3 (o5 ++ [r318]) o6) none))))
 (fun r323 r324 => both (l_qz 0 (IntKind.i64.wrap (o4_3 - 1)) 32 r323 r324 (fun r325 r326 r327 r328 r329 => bi (decide ((o5.length + [r325].length) * 8 ≤ lim)) (gg.2.2.2.2.2.2.1 s x r326 r327 r328 r329 o1 o1_1 o1_2 o1_3 o2 o3 o4 o4_1 o4_2 o4_3 (o5 ++ [r325]) o6) none) (fun r330 r331 r332 => bi (decide ((o5.length + [r330].length) * 8 ≤ lim))
 (gg.2.2.2.2.2.2.2.1 s x r331 r332 o1 o1_1 o1_2 o1_3 o2 o3 o4 o4_1 o4_2 o4_3 (o5 ++ [r330]) o6) none)) (l_qz 0 (IntKind.i64.wrap (o4_3 - 1)) 32 r323 r324 (fun r325 r326 r327 r328 r329 => twice (bi (decide ((o5.length + [r325].length) * 8 ≤ lim)) (gg.2.2.2.2.2.2.1 s x r326 r327 r328 r329 o1 o1_1 o1_2 o1_3 o2 o3 o4 o4_1 o4_2 o4_3 (o5 ++ [r325]) o6) none)) (fun r330 r331 r332 =>
 twice (bi (decide ((o5.length + [r330].length) * 8 ≤ lim)) (gg.2.2.2.2.2.2.2.1 s x r331 r332 o1 o1_1 o1_2 o1_3 o2 o3 o4 o4_1 o4_2 o4_3 (o5 ++ [r330]) o6) none))))) (bi (o4 == 1) (l_qu (ByteArray.mk #[32]) o0 o0_1 (fun r333 r334 r335 r336 => both (l_qw 0 (IntKind.i64.wrap (o4_3 - 1)) 32 r333 r334 r335 r336 (fun r337 r338 r339 r340 r341 =>
 bi (decide ((o5.length + [r337].length) * 8 ≤ lim)) (gg.2.2.2.2.2.2.1 s x r338 r339 r340 r341 o1 o1_1 o1_2 o1_3 o2 o3 o4 o4_1 o4_2 o4_3 (o5 ++ [r337]) o6) none)) (l_qw 0 (IntKind.i64.wrap (o4_3 - 1)) 32 r333 r334 r335 r336 (fun r337 r338 r339 r340 r341 => twice (bi (decide ((o5.length + [r337].length) * 8 ≤ lim))
 (gg.2.2.2.2.2.2.1 s x r338 r339 r340 r341 o1 o1_1 o1_2 o1_3 o2 o3 o4 o4_1 o4_2 o4_3 (o5 ++ [r337]) o6) none)))) (fun r342 r343 => both (l_qz 0 (IntKind.i64.wrap (o4_3 - 1)) 32 r342 r343 (fun r344 r345 r346 r347 r348 => bi (decide ((o5.length + [r344].length) * 8 ≤ lim)) (gg.2.2.2.2.2.2.1 s x r345 r346 r347 r348 o1 o1_1 o1_2 o1_3 o2 o3 o4 o4_1 o4_2 o4_3 (o5 ++ [r344]) o6) none)
 (fun r349 r350 r351 => bi (decide ((o5.length + [r349].length) * 8 ≤ lim)) (gg.2.2.2.2.2.2.2.1 s x r350 r351 o1 o1_1 o1_2 o1_3 o2 o3 o4 o4_1 o4_2 o4_3 (o5 ++ [r349]) o6) none)) (l_qz 0 (IntKind.i64.wrap (o4_3 - 1)) 32 r342 r343 (fun r344 r345 r346 r347 r348 => twice (bi (decide ((o5.length + [r344].length) * 8 ≤ lim))
 (gg.2.2.2.2.2.2.1 s x r345 r346 r347 r348 o1 o1_1 o1_2 o1_3 o2 o3 o4 o4_1 o4_2 o4_3 (o5 ++ [r344]) o6) none)) (fun r349 r350 r351 => twice (bi (decide ((o5.length + [r349].length) * 8 ≤ lim)) (gg.2.2.2.2.2.2.2.1 s x r350 r351 o1 o1_1 o1_2 o1_3 o2 o3 o4 o4_1 o4_2 o4_3 (o5 ++ [r349]) o6) none))))) (both (l_qz 0 (IntKind.i64.wrap (o4_3 - 1)) 32 o0 o0_1
 (fun r352 r353 r354 r355 r356 => bi (decide ((o5.length + [r352].length) * 8 ≤ lim)) (gg.2.2.2.2.2.2.1 s x r353 r354 r355 r356 o1 o1_1 o1_2 o1_3 o2 o3 o4 o4_1 o4_2 o4_3 (o5 ++ [r352]) o6) none) (fun r357 r358 r359 => bi (decide ((o5.length + [r357].length) * 8 ≤ lim)) (gg.2.2.2.2.2.2.2.1 s x r358 r359 o1 o1_1 o1_2 o1_3 o2 o3 o4 o4_1 o4_2 o4_3 (o5 ++ [r357]) o6) none))
 (l_qz 0 (IntKind.i64.wrap (o4_3 - 1)) 32 o0 o0_1 (fun r352 r353 r354 r355 r356 => twice (bi (decide ((o5.length + [r352].length) * 8 ≤ lim)) (gg.2.2.2.2.2.2.1 s x r353 r354 r355 r356 o1 o1_1 o1_2 o1_3 o2 o3 o4 o4_1 o4_2 o4_3 (o5 ++ [r352]) o6) none)) (fun r357 r358 r359 => twice (bi (decide ((o5.length + [r357].length) * 8 ≤ lim))
 (gg.2.2.2.2.2.2.2.1 s x r358 r359 o1 o1_1 o1_2 o1_3 o2 o3 o4 o4_1 o4_2 o4_3 (o5 ++ [r357]) o6) none)))))) (l_qu (ByteArray.mk #[10]) o0 o0_1 (fun r360 r361 r362 r363 => gg.1 (IntKind.i64.wrap (s + 1)) r360 r361 r362 r363 o1 o1_1 o1_2 o1_3 o2 o3 o4 o4_1 o4_2 o4_3 o5 o6) (fun r364 r365 => gg.2.1 (IntKind.i64.wrap (s + 1)) r364 r365 o1 o1_1 o1_2 o1_3 o2 o3 o4 o4_1 o4_2 o4_3 o5 o6))

def s_q10_20b {R : Type} := @gs_q10_20b @l_qy @l_qw @l_qu @l_qz R

abbrev gs_q10_25a (l_qy : LT_qy) (l_qw : LT_qw) (l_qu : LT_qu) (l_qz : LT_qz) {R : Type} (gg : RT_q10 R) (K0 : KT0_q10 R) (K1 : KT1_q10 R) (s x : Int) (o0 : List Int) (o0_1 o1 o1_1 o2 o2_1 o2_2 o2_3 : Int) (o3 o4 : List Int) (o5 o5_1 o5_2 o5_3 : Int) (o6 o7 : List Int) : Option R :=
 bi (o5 == 2) (l_qy (ByteArray.mk #[47]) o0 o0_1 o1 o1_1 (fun r366 r367 r368 r369 => both (l_qw 0 (IntKind.i64.wrap (o5_2 - 1)) 33 r366 r367 r368 r369 (fun r370 r371 r372 r373 r374 => bi (decide ((o7.length + [r370].length) * 8 ≤ lim)) (gg.2.2.2.2.2.2.2.2.1 s x r371 r372 r373 r374 o2 o2_1 o2_2 o2_3 o3 o4 o5 o5_1 o5_2 o5_3 o6 (o7 ++ [r370])) none))
 (l_qw 0 (IntKind.i64.wrap (o5_2 - 1)) 33 r366 r367 r368 r369 (fun r370 r371 r372 r373 r374 => twice (bi (decide ((o7.length + [r370].length) * 8 ≤ lim)) (gg.2.2.2.2.2.2.2.2.1 s x r371 r372 r373 r374 o2 o2_1 o2_2 o2_3 o3 o4 o5 o5_1 o5_2 o5_3 o6 (o7 ++ [r370])) none))))) (gg.2.2.2.2.2.2.2.2.1 s x o0 o0_1 o1 o1_1 o2 o2_1 o2_2 o2_3 o3 o4 o5 o5_1 o5_2 o5_3 o6 o7)

def s_q10_25a {R : Type} := @gs_q10_25a @l_qy @l_qw @l_qu @l_qz R

abbrev gs_q10_25b (l_qy : LT_qy) (l_qw : LT_qw) (l_qu : LT_qu) (l_qz : LT_qz) {R : Type} (gg : RT_q10 R) (K0 : KT0_q10 R) (K1 : KT1_q10 R) (s x : Int) (o0 : List Int) (o0_1 o1 o1_1 o1_2 o1_3 : Int) (o2 o3 : List Int) (o4 o4_1 o4_2 o4_3 : Int) (o5 o6 : List Int) : Option R :=
 bi (o4 == 2) (l_qu (ByteArray.mk #[47]) o0 o0_1 (fun r375 r376 r377 r378 => both (l_qw 0 (IntKind.i64.wrap (o4_2 - 1)) 33 r375 r376 r377 r378 (fun r379 r380 r381 r382 r383 => bi (decide ((o6.length + [r379].length) * 8 ≤ lim)) (gg.2.2.2.2.2.2.2.2.1 s x r380 r381 r382 r383 o1 o1_1 o1_2 o1_3 o2 o3 o4 o4_1 o4_2 o4_3 o5 (o6 ++ [r379])) none))
 (l_qw 0 (IntKind.i64.wrap (o4_2 - 1)) 33 r375 r376 r377 r378 (fun r379 r380 r381 r382 r383 => twice (bi (decide ((o6.length + [r379].length) * 8 ≤ lim)) (gg.2.2.2.2.2.2.2.2.1 s x r380 r381 r382 r383 o1 o1_1 o1_2 o1_3 o2 o3 o4 o4_1 o4_2 o4_3 o5 (o6 ++ [r379])) none)))) (fun r384 r385 => both (l_qz 0 (IntKind.i64.wrap (o4_2 - 1)) 33 r384 r385
 (fun r386 r387 r388 r389 r390 => bi (decide ((o6.length + [r386].length) * 8 ≤ lim)) (gg.2.2.2.2.2.2.2.2.1 s x r387 r388 r389 r390 o1 o1_1 o1_2 o1_3 o2 o3 o4 o4_1 o4_2 o4_3 o5 (o6 ++ [r386])) none) (fun r391 r392 r393 => bi (decide ((o6.length + [r391].length) * 8 ≤ lim)) (gg.2.2.2.2.2.2.2.2.2 s x r392 r393 o1 o1_1 o1_2 o1_3 o2 o3 o4 o4_1 o4_2 o4_3 o5 (o6 ++ [r391])) none))
 (l_qz 0 (IntKind.i64.wrap (o4_2 - 1)) 33 r384 r385 (fun r386 r387 r388 r389 r390 => twice (bi (decide ((o6.length + [r386].length) * 8 ≤ lim)) (gg.2.2.2.2.2.2.2.2.1 s x r387 r388 r389 r390 o1 o1_1 o1_2 o1_3 o2 o3 o4 o4_1 o4_2 o4_3 o5 (o6 ++ [r386])) none)) (fun r391 r392 r393 => twice (bi (decide ((o6.length + [r391].length) * 8 ≤ lim))
 (gg.2.2.2.2.2.2.2.2.2 s x r392 r393 o1 o1_1 o1_2 o1_3 o2 o3 o4 o4_1 o4_2 o4_3 o5 (o6 ++ [r391])) none))))) (gg.2.2.2.2.2.2.2.2.2 s x o0 o0_1 o1 o1_1 o1_2 o1_3 o2 o3 o4 o4_1 o4_2 o4_3 o5 o6)

def s_q10_25b {R : Type} := @gs_q10_25b @l_qy @l_qw @l_qu @l_qz R

abbrev gs_q10_21a (l_qy : LT_qy) (l_qw : LT_qw) (l_qu : LT_qu) (l_qz : LT_qz) {R : Type} (gg : RT_q10 R) (K0 : KT0_q10 R) (K1 : KT1_q10 R) (s x : Int) (o0 : List Int) (o0_1 o1 o1_1 o2 o2_1 o2_2 o2_3 : Int) (o3 o4 : List Int) (o5 o5_1 o5_2 o5_3 : Int) (o6 o7 : List Int) : Option R :=
 gg.2.2.2.2.1 s (IntKind.i64.wrap (x + 1)) o0 o0_1 o1 o1_1 o2 o2_1 o2_2 o2_3 o3 o4 o5 o5_1 o5_2 o5_3 o6 o7

def s_q10_21a {R : Type} := @gs_q10_21a @l_qy @l_qw @l_qu @l_qz R

abbrev gs_q10_21b (l_qy : LT_qy) (l_qw : LT_qw) (l_qu : LT_qu) (l_qz : LT_qz) {R : Type} (gg : RT_q10 R) (K0 : KT0_q10 R) (K1 : KT1_q10 R) (s x : Int) (o0 : List Int) (o0_1 o1 o1_1 o1_2 o1_3 : Int) (o2 o3 : List Int) (o4 o4_1 o4_2 o4_3 : Int) (o5 o6 : List Int) : Option R :=
 gg.2.2.2.2.2.1 s (IntKind.i64.wrap (x + 1)) o0 o0_1 o1 o1_1 o1_2 o1_3 o2 o3 o4 o4_1 o4_2 o4_3 o5 o6

def s_q10_21b {R : Type} := @gs_q10_21b @l_qy @l_qw @l_qu @l_qz R

abbrev ge_q10 (l_qy : LT_qy) (l_qw : LT_qw) (l_qu : LT_qu) (l_qz : LT_qz) {R : Type} (gg : RT_q10 R) (K0 : KT0_q10 R) (K1 : KT1_q10 R) (o0 : List Int) (o0_1 : Int) : Option R :=
 bi (decide ((o0.length : Int) > 0)) (bi (decide (0 ≤ (0 : Int) ∧ (0 : Int) < ((o0.length : Nat) : Int))) (bi ((o0.getD 0 0) == 109) (l_qu (ByteArray.mk #[109, 101, 97, 108, 121, 32]) o0 o0_1 (fun r1 r2 r3 r4 => l_qw 1 64 1 r1 r2 r3 r4 (fun r5 r6 r7 r8 r9 => l_qy (ByteArray.mk #[32]) r6 r7 r8 r9 (fun r10 r11 r12 r13 =>
 l_qw 1 64 33 r10 r11 r12 r13 (fun r14 r15 r16 r17 r18 => l_qy (ByteArray.mk #[32]) r15 r16 r17 r18 (fun r19 r20 r21 r22 => l_qw 1 1024 3 r19 r20 r21 r22 (fun r23 r24 r25 r26 r27 => l_qy (ByteArray.mk #[10]) r24 r25 r26 r27 (fun r28 r29 r30 r31 =>
 gg.1 0 r28 r29 r30 r31 0 0 0 0 ([] : List Int) ([] : List Int) 2 r5 r14 r23 ([] : List Int) ([] : List Int)))))))) (fun r32 r33 => l_qz 1 64 1 r32 r33 (fun r34 r35 r36 r37 r38 => l_qy (ByteArray.mk #[32]) r35 r36 r37 r38 (fun r39 r40 r41 r42 => l_qw 1 64 33 r39 r40 r41 r42 (fun r43 r44 r45 r46 r47 =>
 l_qy (ByteArray.mk #[32]) r44 r45 r46 r47 (fun r48 r49 r50 r51 => l_qw 1 1024 3 r48 r49 r50 r51 (fun r52 r53 r54 r55 r56 => l_qy (ByteArray.mk #[10]) r53 r54 r55 r56 (fun r57 r58 r59 r60 => gg.1 0 r57 r58 r59 r60 0 0 0 0 ([] : List Int) ([] : List Int) 2 r34 r43 r52 ([] : List Int) ([] : List Int))))))) (fun r61 r62 r63 =>
 l_qu (ByteArray.mk #[32]) r62 r63 (fun r64 r65 r66 r67 => l_qw 1 64 33 r64 r65 r66 r67 (fun r68 r69 r70 r71 r72 => l_qy (ByteArray.mk #[32]) r69 r70 r71 r72 (fun r73 r74 r75 r76 => l_qw 1 1024 3 r73 r74 r75 r76 (fun r77 r78 r79 r80 r81 => l_qy (ByteArray.mk #[10]) r78 r79 r80 r81
 (fun r82 r83 r84 r85 => gg.1 0 r82 r83 r84 r85 0 0 0 0 ([] : List Int) ([] : List Int) 2 r61 r68 r77 ([] : List Int) ([] : List Int)))))) (fun r86 r87 => l_qz 1 64 33 r86 r87 (fun r88 r89 r90 r91 r92 => l_qy (ByteArray.mk #[32]) r89 r90 r91 r92 (fun r93 r94 r95 r96 => l_qw 1 1024 3 r93 r94 r95 r96 (fun r97 r98 r99 r100 r101 =>
 l_qy (ByteArray.mk #[10]) r98 r99 r100 r101 (fun r102 r103 r104 r105 => gg.1 0 r102 r103 r104 r105 0 0 0 0 ([] : List Int) ([] : List Int) 2 r61 r88 r97 ([] : List Int) ([] : List Int))))) (fun r106 r107 r108 => l_qu (ByteArray.mk #[32]) r107 r108 (fun r109 r110 r111 r112 => l_qw 1 1024 3 r109 r110 r111 r112
 (fun r113 r114 r115 r116 r117 => l_qy (ByteArray.mk #[10]) r114 r115 r116 r117 (fun r118 r119 r120 r121 => gg.1 0 r118 r119 r120 r121 0 0 0 0 ([] : List Int) ([] : List Int) 2 r61 r106 r113 ([] : List Int) ([] : List Int)))) (fun r122 r123 => l_qz 1 1024 3 r122 r123 (fun r124 r125 r126 r127 r128 =>
 l_qy (ByteArray.mk #[10]) r125 r126 r127 r128 (fun r129 r130 r131 r132 => gg.1 0 r129 r130 r131 r132 0 0 0 0 ([] : List Int) ([] : List Int) 2 r61 r106 r124 ([] : List Int) ([] : List Int))) (fun r133 r134 r135 => l_qu (ByteArray.mk #[10]) r134 r135 (fun r136 r137 r138 r139 =>
 gg.1 0 r136 r137 r138 r139 0 0 0 0 ([] : List Int) ([] : List Int) 2 r61 r106 r133 ([] : List Int) ([] : List Int)) (fun r140 r141 => gg.2.1 0 r140 r141 0 0 0 0 ([] : List Int) ([] : List Int) 2 r61 r106 r133 ([] : List Int) ([] : List Int))))))))) (l_qu (ByteArray.mk #[100, 102, 97, 32]) o0 o0_1 (fun r142 r143 r144 r145 => l_qw 1 64 1 r142 r143 r144 r145
 (fun r146 r147 r148 r149 r150 => l_qy (ByteArray.mk #[32]) r147 r148 r149 r150 (fun r151 r152 r153 r154 => l_qw 1 1024 3 r151 r152 r153 r154 (fun r155 r156 r157 r158 r159 => l_qy (ByteArray.mk #[10]) r156 r157 r158 r159 (fun r160 r161 r162 r163 =>
 gg.1 0 r160 r161 r162 r163 0 0 0 0 ([] : List Int) ([] : List Int) 1 r146 2 r155 ([] : List Int) ([] : List Int)))))) (fun r164 r165 => l_qz 1 64 1 r164 r165 (fun r166 r167 r168 r169 r170 => l_qy (ByteArray.mk #[32]) r167 r168 r169 r170 (fun r171 r172 r173 r174 => l_qw 1 1024 3 r171 r172 r173 r174 (fun r175 r176 r177 r178 r179 =>
 l_qy (ByteArray.mk #[10]) r176 r177 r178 r179 (fun r180 r181 r182 r183 => gg.1 0 r180 r181 r182 r183 0 0 0 0 ([] : List Int) ([] : List Int) 1 r166 2 r175 ([] : List Int) ([] : List Int))))) (fun r184 r185 r186 => l_qu (ByteArray.mk #[32]) r185 r186 (fun r187 r188 r189 r190 => l_qw 1 1024 3 r187 r188 r189 r190
 (fun r191 r192 r193 r194 r195 => l_qy (ByteArray.mk #[10]) r192 r193 r194 r195 (fun r196 r197 r198 r199 => gg.1 0 r196 r197 r198 r199 0 0 0 0 ([] : List Int) ([] : List Int) 1 r184 2 r191 ([] : List Int) ([] : List Int)))) (fun r200 r201 => l_qz 1 1024 3 r200 r201 (fun r202 r203 r204 r205 r206 =>
 l_qy (ByteArray.mk #[10]) r203 r204 r205 r206 (fun r207 r208 r209 r210 => gg.1 0 r207 r208 r209 r210 0 0 0 0 ([] : List Int) ([] : List Int) 1 r184 2 r202 ([] : List Int) ([] : List Int))) (fun r211 r212 r213 => l_qu (ByteArray.mk #[10]) r212 r213 (fun r214 r215 r216 r217 =>
 gg.1 0 r214 r215 r216 r217 0 0 0 0 ([] : List Int) ([] : List Int) 1 r184 2 r211 ([] : List Int) ([] : List Int)) (fun r218 r219 => gg.2.1 0 r218 r219 0 0 0 0 ([] : List Int) ([] : List Int) 1 r184 2 r211 ([] : List Int) ([] : List Int)))))))) none) (l_qu (ByteArray.mk #[100, 102, 97, 32]) o0 o0_1 (fun r220 r221 r222 r223 => l_qw 1 64 1 r220 r221 r222 r223
 (fun r224 r225 r226 r227 r228 => l_qy (ByteArray.mk #[32]) r225 r226 r227 r228 (fun r229 r230 r231 r232 => l_qw 1 1024 3 r229 r230 r231 r232 (fun r233 r234 r235 r236 r237 => l_qy (ByteArray.mk #[10]) r234 r235 r236 r237 (fun r238 r239 r240 r241 =>
 gg.1 0 r238 r239 r240 r241 0 0 0 0 ([] : List Int) ([] : List Int) 1 r224 2 r233 ([] : List Int) ([] : List Int)))))) (fun r242 r243 => l_qz 1 64 1 r242 r243 (fun r244 r245 r246 r247 r248 => l_qy (ByteArray.mk #[32]) r245 r246 r247 r248 (fun r249 r250 r251 r252 => l_qw 1 1024 3 r249 r250 r251 r252 (fun r253 r254 r255 r256 r257 =>
 l_qy (ByteArray.mk #[10]) r254 r255 r256 r257 (fun r258 r259 r260 r261 => gg.1 0 r258 r259 r260 r261 0 0 0 0 ([] : List Int) ([] : List Int) 1 r244 2 r253 ([] : List Int) ([] : List Int))))) (fun r262 r263 r264 => l_qu (ByteArray.mk #[32]) r263 r264 (fun r265 r266 r267 r268 => l_qw 1 1024 3 r265 r266 r267 r268
 (fun r269 r270 r271 r272 r273 => l_qy (ByteArray.mk #[10]) r270 r271 r272 r273 (fun r274 r275 r276 r277 => gg.1 0 r274 r275 r276 r277 0 0 0 0 ([] : List Int) ([] : List Int) 1 r262 2 r269 ([] : List Int) ([] : List Int)))) (fun r278 r279 => l_qz 1 1024 3 r278 r279 (fun r280 r281 r282 r283 r284 =>
 l_qy (ByteArray.mk #[10]) r281 r282 r283 r284 (fun r285 r286 r287 r288 => gg.1 0 r285 r286 r287 r288 0 0 0 0 ([] : List Int) ([] : List Int) 1 r262 2 r280 ([] : List Int) ([] : List Int))) (fun r289 r290 r291 => l_qu (ByteArray.mk #[10]) r290 r291 (fun r292 r293 r294 r295 =>
 gg.1 0 r292 r293 r294 r295 0 0 0 0 ([] : List Int) ([] : List Int) 1 r262 2 r289 ([] : List Int) ([] : List Int)) (fun r296 r297 => gg.2.1 0 r296 r297 0 0 0 0 ([] : List Int) ([] : List Int) 1 r262 2 r289 ([] : List Int) ([] : List Int)))))))

def e_q10 {R : Type} := @ge_q10 @l_qy @l_qw @l_qu @l_qz R

def run_q10 {R : Type} (K0 : KT0_q10 R) (K1 : KT1_q10 R) : Nat -> (GT_q10_15a R) × (GT_q10_15b R) × (GT_q10_19a R) × (GT_q10_19b R) × (GT_q10_20a R) × (GT_q10_20b R) × (GT_q10_25a R) × (GT_q10_25b R) × (GT_q10_21a R) × (GT_q10_21b R)
 |0 => (fun _ _ _ _ _ _ _ _ _ _ _ _ _ _ _ _ _ => none, fun _ _ _ _ _ _ _ _ _ _ _ _ _ _ _ => none, fun _ _ _ _ _ _ _ _ _ _ _ _ _ _ _ _ _ => none, fun _ _ _ _ _ _ _ _ _ _ _ _ _ _ _ => none, fun _ _ _ _ _ _ _ _ _ _ _ _ _ _ _ _ _ _ => none, fun _ _ _ _ _ _ _ _ _ _ _ _ _ _ _ _ => none, fun _ _ _ _ _ _ _ _ _ _ _ _ _ _ _ _ _ _ => none, fun _ _ _ _ _ _ _ _ _ _ _ _ _ _ _ _ => none, fun _ _ _ _ _ _ _ _ _ _ _ _ _ _ _ _ _ _ => none, fun _ _ _ _ _ _ _ _ _ _ _ _ _ _ _ _ => none)
 |n + 1 => (fun r => (s_q10_15a r K0 K1, s_q10_15b r K0 K1, s_q10_19a r K0 K1, s_q10_19b r K0 K1, s_q10_20a r K0 K1, s_q10_20b r K0 K1, s_q10_25a r K0 K1, s_q10_25b r K0 K1, s_q10_21a r K0 K1, s_q10_21b r K0 K1)) (run_q10 K0 K1 n)

def l_q10 {R : Type} (o0 : List Int) (o0_1 : Int) (K0 : KT0_q10 R) (K1 : KT1_q10 R) : Option R := evl fun fuel => e_q10 (run_q10 K0 K1 fuel) K0 K1 o0 o0_1

theorem st_q10_15a {R : Type} (K0 : KT0_q10 R) (K1 : KT1_q10 R) (fuel : Nat) (s : Int) (o0 : List Int) (o0_1 o1 o1_1 o2 o2_1 o2_2 o2_3 : Int) (o3 o4 : List Int) (o5 o5_1 o5_2 o5_3 : Int) (o6 o7 : List Int) : (run_q10 K0 K1 (fuel + 1)).1 s o0 o0_1 o1 o1_1 o2 o2_1 o2_2 o2_3 o3 o4 o5 o5_1 o5_2 o5_3 o6 o7 = s_q10_15a (run_q10 K0 K1 fuel) K0 K1 s o0 o0_1 o1 o1_1 o2 o2_1 o2_2 o2_3 o3 o4 o5 o5_1 o5_2 o5_3 o6 o7 := rfl

theorem st_q10_15b {R : Type} (K0 : KT0_q10 R) (K1 : KT1_q10 R) (fuel : Nat) (s : Int) (o0 : List Int) (o0_1 o1 o1_1 o1_2 o1_3 : Int) (o2 o3 : List Int) (o4 o4_1 o4_2 o4_3 : Int) (o5 o6 : List Int) : (run_q10 K0 K1 (fuel + 1)).2.1 s o0 o0_1 o1 o1_1 o1_2 o1_3 o2 o3 o4 o4_1 o4_2 o4_3 o5 o6 = s_q10_15b (run_q10 K0 K1 fuel) K0 K1 s o0 o0_1 o1 o1_1 o1_2 o1_3 o2 o3 o4 o4_1 o4_2 o4_3 o5 o6 := rfl

theorem st_q10_19a {R : Type} (K0 : KT0_q10 R) (K1 : KT1_q10 R) (fuel : Nat) (s : Int) (o0 : List Int) (o0_1 o1 o1_1 o2 o2_1 o2_2 o2_3 : Int) (o3 o4 : List Int) (o5 o5_1 o5_2 o5_3 : Int) (o6 o7 : List Int) : (run_q10 K0 K1 (fuel + 1)).2.2.1 s o0 o0_1 o1 o1_1 o2 o2_1 o2_2 o2_3 o3 o4 o5 o5_1 o5_2 o5_3 o6 o7 = s_q10_19a (run_q10 K0 K1 fuel) K0 K1 s o0 o0_1 o1 o1_1 o2 o2_1 o2_2 o2_3 o3 o4 o5 o5_1 o5_2 o5_3 o6 o7 := rfl

theorem st_q10_19b {R : Type} (K0 : KT0_q10 R) (K1 : KT1_q10 R) (fuel : Nat) (s : Int) (o0 : List Int) (o0_1 o1 o1_1 o1_2 o1_3 : Int) (o2 o3 : List Int) (o4 o4_1 o4_2 o4_3 : Int) (o5 o6 : List Int) : (run_q10 K0 K1 (fuel + 1)).2.2.2.1 s o0 o0_1 o1 o1_1 o1_2 o1_3 o2 o3 o4 o4_1 o4_2 o4_3 o5 o6 = s_q10_19b (run_q10 K0 K1 fuel) K0 K1 s o0 o0_1 o1 o1_1 o1_2 o1_3 o2 o3 o4 o4_1 o4_2 o4_3 o5 o6 := rfl

theorem st_q10_20a {R : Type} (K0 : KT0_q10 R) (K1 : KT1_q10 R) (fuel : Nat) (s x : Int) (o0 : List Int) (o0_1 o1 o1_1 o2 o2_1 o2_2 o2_3 : Int) (o3 o4 : List Int) (o5 o5_1 o5_2 o5_3 : Int) (o6 o7 : List Int) : (run_q10 K0 K1 (fuel + 1)).2.2.2.2.1 s x o0 o0_1 o1 o1_1 o2 o2_1 o2_2 o2_3 o3 o4 o5 o5_1 o5_2 o5_3 o6 o7 = s_q10_20a (run_q10 K0 K1 fuel) K0 K1 s x o0 o0_1 o1 o1_1 o2 o2_1 o2_2 o2_3 o3 o4 o5 o5_1 o5_2 o5_3 o6 o7 := rfl

theorem st_q10_20b {R : Type} (K0 : KT0_q10 R) (K1 : KT1_q10 R) (fuel : Nat) (s x : Int) (o0 : List Int) (o0_1 o1 o1_1 o1_2 o1_3 : Int) (o2 o3 : List Int) (o4 o4_1 o4_2 o4_3 : Int) (o5 o6 : List Int) : (run_q10 K0 K1 (fuel + 1)).2.2.2.2.2.1 s x o0 o0_1 o1 o1_1 o1_2 o1_3 o2 o3 o4 o4_1 o4_2 o4_3 o5 o6 = s_q10_20b (run_q10 K0 K1 fuel) K0 K1 s x o0 o0_1 o1 o1_1 o1_2 o1_3 o2 o3 o4 o4_1 o4_2 o4_3 o5 o6 := rfl

theorem st_q10_25a {R : Type} (K0 : KT0_q10 R) (K1 : KT1_q10 R) (fuel : Nat) (s x : Int) (o0 : List Int) (o0_1 o1 o1_1 o2 o2_1 o2_2 o2_3 : Int) (o3 o4 : List Int) (o5 o5_1 o5_2 o5_3 : Int) (o6 o7 : List Int) : (run_q10 K0 K1 (fuel + 1)).2.2.2.2.2.2.1 s x o0 o0_1 o1 o1_1 o2 o2_1 o2_2 o2_3 o3 o4 o5 o5_1 o5_2 o5_3 o6 o7 = s_q10_25a (run_q10 K0 K1 fuel) K0 K1 s x o0 o0_1 o1 o1_1 o2 o2_1 o2_2 o2_3 o3 o4 o5 o5_1 o5_2 o5_3 o6 o7 := rfl

theorem st_q10_25b {R : Type} (K0 : KT0_q10 R) (K1 : KT1_q10 R) (fuel : Nat) (s x : Int) (o0 : List Int) (o0_1 o1 o1_1 o1_2 o1_3 : Int) (o2 o3 : List Int) (o4 o4_1 o4_2 o4_3 : Int) (o5 o6 : List Int) : (run_q10 K0 K1 (fuel + 1)).2.2.2.2.2.2.2.1 s x o0 o0_1 o1 o1_1 o1_2 o1_3 o2 o3 o4 o4_1 o4_2 o4_3 o5 o6 = s_q10_25b (run_q10 K0 K1 fuel) K0 K1 s x o0 o0_1 o1 o1_1 o1_2 o1_3 o2 o3 o4 o4_1 o4_2 o4_3 o5 o6 := rfl

theorem st_q10_21a {R : Type} (K0 : KT0_q10 R) (K1 : KT1_q10 R) (fuel : Nat) (s x : Int) (o0 : List Int) (o0_1 o1 o1_1 o2 o2_1 o2_2 o2_3 : Int) (o3 o4 : List Int) (o5 o5_1 o5_2 o5_3 : Int) (o6 o7 : List Int) : (run_q10 K0 K1 (fuel + 1)).2.2.2.2.2.2.2.2.1 s x o0 o0_1 o1 o1_1 o2 o2_1 o2_2 o2_3 o3 o4 o5 o5_1 o5_2 o5_3 o6 o7 = s_q10_21a (run_q10 K0 K1 fuel) K0 K1 s x o0 o0_1 o1 o1_1 o2 o2_1 o2_2 o2_3 o3 o4 o5 o5_1 o5_2 o5_3 o6 o7 := rfl

theorem st_q10_21b {R : Type} (K0 : KT0_q10 R) (K1 : KT1_q10 R) (fuel : Nat) (s x : Int) (o0 : List Int) (o0_1 o1 o1_1 o1_2 o1_3 : Int) (o2 o3 : List Int) (o4 o4_1 o4_2 o4_3 : Int) (o5 o6 : List Int) : (run_q10 K0 K1 (fuel + 1)).2.2.2.2.2.2.2.2.2 s x o0 o0_1 o1 o1_1 o1_2 o1_3 o2 o3 o4 o4_1 o4_2 o4_3 o5 o6 = s_q10_21b (run_q10 K0 K1 fuel) K0 K1 s x o0 o0_1 o1 o1_1 o1_2 o1_3 o2 o3 o4 o4_1 o4_2 o4_3 o5 o6 := rfl

section reading
variable {R : Type} {G : Int -> Int -> Option R} {K1 : Int -> Int -> Int -> Int -> List Int -> Int -> List Int -> List Int -> Option R}

abbrev RF {R : Type} (G : Int -> Int -> Option R) (K1 : Int -> Int -> Int -> Int -> List Int -> Int -> List Int -> List Int -> Option R) (m : Nat) := run_q10 (fun _ _ _ _ _ _ k p _ _ => G k p) K1 m

theorem f15 {s : Int} {o0 : List Int} {a k p z1 z2 z3 z4 : Int} {zn zo : List Int} {c1 c2 c3 c4 : Int} {nx ou : List Int} :
  Reach (fun m => (RF G K1 m).1 s o0 a k p z1 z2 z3 z4 zn zo c1 c2 c3 c4 nx ou) (G k p) := by
 refine .now fun m => ?_
 rw [st_q10_15a]
 unfold s_q10_15a gs_q10_15a
 exact br_same _

theorem f20 {s x : Int} {o0 : List Int} {a k p z1 z2 z3 z4 : Int} {zn zo : List Int} {c1 c2 c3 c4 : Int} {nx ou : List Int} :
  Reach (fun m => (RF G K1 m).2.2.2.2.1 s x o0 a k p z1 z2 z3 z4 zn zo c1 c2 c3 c4 nx ou) (G k p) := by
 apply Reach.step (k := f15)
 intro m
 rw [st_q10_20a]
 unfold s_q10_20a gs_q10_20a
 simp only [wantf_eq]
 exact br_same _

theorem f21 {s x : Int} {o0 : List Int} {a k p z1 z2 z3 z4 : Int} {zn zo : List Int} {c1 c2 c3 c4 : Int} {nx ou : List Int} :
  Reach (fun m => (RF G K1 m).2.2.2.2.2.2.2.2.1 s x o0 a k p z1 z2 z3 z4 zn zo c1 c2 c3 c4 nx ou) (G k p) := by
 apply Reach.step (k := f20)
 intro m
 rw [st_q10_21a]
 unfold s_q10_21a gs_q10_21a
 rfl

theorem f25 {s x : Int} {o0 : List Int} {a k p z1 z2 z3 z4 : Int} {zn zo : List Int} {c1 c2 c3 c4 : Int} {nx ou : List Int} (ho : ou.length ≤ 17000000) :
  Reach (fun m => (RF G K1 m).2.2.2.2.2.2.1 s x o0 a k p z1 z2 z3 z4 zn zo c1 c2 c3 c4 nx ou) (G k p) := by
 by_cases hc : c1 = 2
 ·apply Reach.step (k := f21)
  intro m
  rw [st_q10_25a]
  unfold s_q10_25a gs_q10_25a
  simp only [wantf_eq, numf_eq, twice_eq, both_same]
  rw [br_eq hc, br_pos (by simp [lim]; omega)]
 ·apply Reach.step (k := f21)
  intro m
  rw [st_q10_25a]
  unfold s_q10_25a gs_q10_25a
  rw [br_eq' hc]

theorem f19 {s : Int} {o0 : List Int} {a k p z1 z2 z3 z4 : Int} {zn zo : List Int} {c1 c2 c3 c4 : Int} {nx ou : List Int} :
  Reach (fun m => (RF G K1 m).2.2.1 s o0 a k p z1 z2 z3 z4 zn zo c1 c2 c3 c4 nx ou) (G k p) := by
 apply Reach.step (k := f20)
 intro m
 rw [st_q10_19a]
 unfold s_q10_19a gs_q10_19a
 rfl

variable {b : List Int} (hb : b.length ≤ 16777216) {z1 z2 z3 z4 : Int} {zn zo : List Int} {k K O N : Int}

include hb in
theorem sh : short b := by unfold short; omega

include hb

/-- Behind the first number of a cell. -/
theorem cell_rest {s x a : Nat} {nx ou : List Int} {F : Nat × List Int × List Int -> Rd (Int × Int × Int × Int × List Int × List Int)} {J : Int × Int × Int × Int × List Int × List Int -> Option R} (ha : a ≤ b.length) (hn : nx.length ≤ a) (ho : ou.length ≤ a) (hO : 1 ≤ O ∧ O ≤ 64) (hx : x < 70000)
  (next : ∀ a' ou', a' ≤ b.length -> nx.length ≤ a' -> ou'.length ≤ a' -> Reach (fun m => (RF G K1 m).2.2.2.2.2.1 (s : Int) ((x + 1 : Nat) : Int) b (a' : Int) z1 z2 z3 z4 zn zo k K O N nx ou') (outR G J (F (a', nx, ou')))) :
  Reach (fun m => (RF G K1 m).2.2.2.2.2.2.2.1 (s : Int) (x : Int) b (a : Int) z1 z2 z3 z4 zn zo k K O N nx ou)
   (outR G J (bindR (if k = 2 then bindR (wantS [47] b a) fun a2 => bindR (numbS 0 (O - 1) 33 b a2) fun p => .inr (p.2, nx, ou ++ [p.1]) else .inr (a, nx, ou)) F)) := by
 have go : ∀ a' ou', a' ≤ b.length -> nx.length ≤ a' -> ou'.length ≤ a' -> Reach (fun m => (RF G K1 m).2.2.2.2.2.2.2.2.2 (s : Int) (x : Int) b (a' : Int) z1 z2 z3 z4 zn zo k K O N nx ou') (outR G J (F (a', nx, ou'))) := by
  intro a' ou' h1 h2 h3
  refine .step (fun m => ?_) (next a' ou' h1 h2 h3)
  rw [st_q10_21b]
  unfold s_q10_21b gs_q10_21b
  rw [wr ((x : Int) + 1) (by omega) (by omega)]
  rfl
 by_cases hk : k = 2
 ·rw [if_pos hk]
  cases hw : wantS [47] b a with
  |inl e =>
   apply Reach.step (k := f21)
   intro m
   rw [st_q10_25b]
   unfold s_q10_25b gs_q10_25b
   simp only [twice_eq, both_same]
   rw [br_eq hk, want_bad (s := ByteArray.mk #[47]) (sh hb) (by decide) ha hw]
   simp only [numf_eq]
   rw [br_pos (by simp [lim]; omega)]
  |inr a2 =>
   have ha2 := wantS_le hw ha
   have la2 := (wantS_ok hw).1
   simp only [bindR]
   cases hq : numbS 0 (O - 1) 33 b a2 with
   |inl e =>
    apply Reach.step (k := f21)
    intro m
    rw [st_q10_25b]
    unfold s_q10_25b gs_q10_25b
    simp only [twice_eq, both_same]
    rw [br_eq hk, want_ok (s := ByteArray.mk #[47]) (sh hb) (by decide) ha hw, wr (O - 1) (by omega) (by omega), num_bad (sh hb) ha2 hq]
    rw [br_pos (by simp [lim]; omega)]
   |inr p =>
    have hp := numbS_le hq ha2
    have lp := numbS_lt hq
    simp only [List.length_cons, List.length_nil] at la2
    refine .step (fun m => ?_) (go p.2 (ou ++ [p.1]) hp (by omega) (by simp; omega))
    rw [st_q10_25b]
    unfold s_q10_25b gs_q10_25b
    simp only [twice_eq, both_same]
    rw [br_eq hk, want_ok (s := ByteArray.mk #[47]) (sh hb) (by decide) ha hw, wr (O - 1) (by omega) (by omega), num_ok (sh hb) ha2 hq]
    rw [br_pos (by simp [lim]; omega)]
 ·rw [if_neg hk]
  refine .step (fun m => ?_) (go a ou ha hn ho)
  rw [st_q10_25b]
  unfold s_q10_25b gs_q10_25b
  rw [br_eq' hk]

/-- From a cell's first number on. -/
theorem cell_num {s x a : Nat} {nx ou : List Int} {F : Nat × List Int × List Int -> Rd (Int × Int × Int × Int × List Int × List Int)} {J : Int × Int × Int × Int × List Int × List Int -> Option R} (ha : a ≤ b.length) (hn : nx.length ≤ a) (ho : ou.length ≤ a) (hO : 1 ≤ O ∧ O ≤ 64) (hN : 1 ≤ N ∧ N ≤ 1024) (hx : x < 70000)
  (next : ∀ a' nx' ou', a' ≤ b.length -> nx'.length ≤ a' -> ou'.length ≤ a' -> Reach (fun m => (RF G K1 m).2.2.2.2.2.1 (s : Int) ((x + 1 : Nat) : Int) b (a' : Int) z1 z2 z3 z4 zn zo k K O N nx' ou') (outR G J (F (a', nx', ou')))) :
  Reach (fun m => l_qz 0 (IntKind.i64.wrap (N - 1)) 32 b (a : Int)
    (fun n b' i kk p => bi (decide ((nx.length + [n].length) * 8 ≤ lim)) ((RF G K1 m).2.2.2.2.2.2.1 (s : Int) (x : Int) b' i kk p z1 z2 z3 z4 zn zo k K O N (nx ++ [n]) ou) none)
    (fun n b' i => bi (decide ((nx.length + [n].length) * 8 ≤ lim)) ((RF G K1 m).2.2.2.2.2.2.2.1 (s : Int) (x : Int) b' i z1 z2 z3 z4 zn zo k K O N (nx ++ [n]) ou) none))
   (outR G J (bindR (bindR (numbS 0 (N - 1) 32 b a) fun q => if k = 2 then bindR (wantS [47] b q.2) fun a2 => bindR (numbS 0 (O - 1) 33 b a2) fun p => .inr (p.2, nx ++ [q.1], ou ++ [p.1]) else .inr (q.2, nx ++ [q.1], ou)) F)) := by
 cases hq : numbS 0 (N - 1) 32 b a with
 |inl e =>
  apply Reach.same (k := f25 (K1 := K1) (ou := ou) (by omega))
  intro m
  rw [wr (N - 1) (by omega) (by omega), num_bad (sh hb) ha hq, br_pos (by simp [lim]; omega)]
 |inr q =>
  have hp := numbS_le hq ha
  have lp := numbS_lt hq
  simp only [bindR_inr]
  refine .same (fun m => ?_) (cell_rest hb (a := q.2) (nx := nx ++ [q.1]) (ou := ou) hp (by simp; omega) (by omega) hO hx fun a' ou' h1 h2 h3 => next a' (nx ++ [q.1]) ou' h1 h2 h3)
  rw [wr (N - 1) (by omega) (by omega), num_ok (sh hb) ha hq, br_pos (by simp [lim]; omega)]

theorem cells_run {s : Nat} {F : Nat × List Int × List Int -> Rd (Int × Int × Int × Int × List Int × List Int)} {J : Int × Int × Int × Int × List Int × List Int -> Option R} (hK : 1 ≤ K ∧ K ≤ 64) (hO : 1 ≤ O ∧ O ≤ 64) (hN : 1 ≤ N ∧ N ≤ 1024)
  (next : ∀ a' nx' ou', a' ≤ b.length -> nx'.length ≤ a' -> ou'.length ≤ a' -> Reach (fun m => (RF G K1 m).2.2.2.2.2.1 (s : Int) K b (a' : Int) z1 z2 z3 z4 zn zo k K O N nx' ou') (outR G J (F (a', nx', ou')))) :
  ∀ (d x a : Nat) (nx ou : List Int), x + d = K.toNat -> a ≤ b.length -> nx.length ≤ a -> ou.length ≤ a →
   Reach (fun m => (RF G K1 m).2.2.2.2.2.1 (s : Int) (x : Int) b (a : Int) z1 z2 z3 z4 zn zo k K O N nx ou) (outR G J (bindR (cellsS k O N b d x a nx ou) F))
 |0, x, a, nx, ou, hd, ha, hn, ho => by
  have e : (x : Int) = K := by omega
  rw [e]
  exact next a nx ou ha hn ho
 |d + 1, x, a, nx, ou, hd, ha, hn, ho => by
  have hxK : (x : Int) < K := by omega
  have ih := fun a' nx' ou' h1 h2 h3 => cells_run hK hO hN next d (x + 1) a' nx' ou' (by omega) h1 h2 h3
  have eF : bindR (cellsS k O N b (d + 1) x a nx ou) F = bindR (cellS k O N b x a nx ou) fun q => bindR (cellsS k O N b d (x + 1) q.1 q.2.1 q.2.2) F := by
   simp only [cellsS]
   cases cellS k O N b x a nx ou <;> rfl
  rw [eF]
  have body := fun a' nx' ou' h1 h2 h3 => cell_num hb (G := G) (K1 := K1) (z1 := z1) (z2 := z2) (z3 := z3) (z4 := z4) (zn := zn) (zo := zo) (k := k) (K := K) (s := s) (x := x) (a := a') (nx := nx') (ou := ou') (F := fun q => bindR (cellsS k O N b d (x + 1) q.1 q.2.1 q.2.2) F) (J := J) h1 h2 h3 hO hN (by omega) ih
  have eC : ∀ y : Rd Nat, bindR (bindR y fun a1 => bindR (numbS 0 (N - 1) 32 b a1) fun q => if k = 2 then bindR (wantS [47] b q.2) fun a2 => bindR (numbS 0 (O - 1) 33 b a2) fun p => .inr (p.2, nx ++ [q.1], ou ++ [p.1]) else .inr (q.2, nx ++ [q.1], ou)) (fun q => bindR (cellsS k O N b d (x + 1) q.1 q.2.1 q.2.2) F) =
    bindR y fun a1 => bindR (bindR (numbS 0 (N - 1) 32 b a1) fun q => if k = 2 then bindR (wantS [47] b q.2) fun a2 => bindR (numbS 0 (O - 1) 33 b a2) fun p => .inr (p.2, nx ++ [q.1], ou ++ [p.1]) else .inr (q.2, nx ++ [q.1], ou)) (fun q => bindR (cellsS k O N b d (x + 1) q.1 q.2.1 q.2.2) F) := by
   intro y
   cases y <;> rfl
  unfold cellS
  rw [eC]
  have wanted : (0 < x ∨ k = 1) -> ∀ (g : Nat -> Option R) , (∀ m, g (m + 1) = l_qu (ByteArray.mk #[32]) b (a : Int)
    (fun r314 r315 r316 r317 => bi (decide ((nx.length + [(0 : Int)].length) * 8 ≤ lim)) ((RF G K1 m).2.2.2.2.2.2.1 (s : Int) (x : Int) r314 r315 r316 r317 z1 z2 z3 z4 zn zo k K O N (nx ++ [0]) ou) none)
    (fun r323 r324 => l_qz 0 (IntKind.i64.wrap (N - 1)) 32 r323 r324
     (fun n b' i kk p => bi (decide ((nx.length + [n].length) * 8 ≤ lim)) ((RF G K1 m).2.2.2.2.2.2.1 (s : Int) (x : Int) b' i kk p z1 z2 z3 z4 zn zo k K O N (nx ++ [n]) ou) none)
     (fun n b' i => bi (decide ((nx.length + [n].length) * 8 ≤ lim)) ((RF G K1 m).2.2.2.2.2.2.2.1 (s : Int) (x : Int) b' i z1 z2 z3 z4 zn zo k K O N (nx ++ [n]) ou) none))) →
    Reach g (outR G J (bindR (wantS [32] b a) fun a1 => bindR (bindR (numbS 0 (N - 1) 32 b a1) fun q => if k = 2 then bindR (wantS [47] b q.2) fun a2 => bindR (numbS 0 (O - 1) 33 b a2) fun p => .inr (p.2, nx ++ [q.1], ou ++ [p.1]) else .inr (q.2, nx ++ [q.1], ou)) (fun q => bindR (cellsS k O N b d (x + 1) q.1 q.2.1 q.2.2) F))) := by
   intro _ g hg
   cases hw : wantS [32] b a with
   |inl e =>
    apply Reach.step (k := f25 (K1 := K1) (ou := ou) (by omega))
    intro m
    rw [hg, want_bad (s := ByteArray.mk #[32]) (sh hb) (by decide) ha hw, br_pos (by simp [lim]; omega)]
   |inr a2 =>
    have ha2 := wantS_le hw ha
    have la2 := (wantS_ok hw).1
    simp only [List.length_cons, List.length_nil] at la2
    refine .step (fun m => ?_) (body a2 nx ou ha2 (by omega) (by omega))
    rw [hg, want_ok (s := ByteArray.mk #[32]) (sh hb) (by decide) ha hw]
  by_cases hx0 : 0 < x
  ·rw [if_pos (.inl hx0)]
   refine wanted (.inl hx0) _ fun m => ?_
   rw [st_q10_20b]
   unfold s_q10_20b gs_q10_20b
   simp only [twice_eq, both_same, numf_eq]
   rw [br_pos hxK, br_pos (by omega)]
  ·by_cases hk : k = 1
   ·rw [if_pos (.inr hk)]
    refine wanted (.inr hk) _ fun m => ?_
    rw [st_q10_20b]
    unfold s_q10_20b gs_q10_20b
    simp only [twice_eq, both_same, numf_eq]
    rw [br_pos hxK, br_neg (by omega), br_eq hk]
   ·rw [if_neg (by omega)]
    refine .step (fun m => ?_) (body a nx ou ha hn ho)
    rw [st_q10_20b]
    unfold s_q10_20b gs_q10_20b
    simp only [twice_eq, both_same, numf_eq]
    rw [br_pos hxK, br_neg (by omega), br_eq' hk]

omit hb in
theorem bindR_assoc {α β γ : Type} (x : Rd α) (f : α -> Rd β) (g : β -> Rd γ) : bindR (bindR x f) g = bindR x fun a => bindR (f a) g := by
 cases x <;> rfl

/-- What is said of a text that was read to its end. -/
def endI (k K O N : Int) (b : List Int) (q : Nat × List Int × List Int) : Rd (Int × Int × Int × Int × List Int × List Int) :=
 if q.1 < b.length then .inl (6, (q.1 : Int)) else .inr (k, K, O, N, q.2.1, q.2.2)

theorem rows_run (hK : 1 ≤ K ∧ K ≤ 64) (hO : 1 ≤ O ∧ O ≤ 64) (hN : 1 ≤ N ∧ N ≤ 1024) :
  ∀ (d s a : Nat) (nx ou : List Int), s + d = N.toNat -> a ≤ b.length -> nx.length ≤ a -> ou.length ≤ a →
   Reach (fun m => (RF G K1 m).2.1 (s : Int) b (a : Int) z1 z2 z3 z4 zn zo k K O N nx ou) (outR G (fun m => K1 m.1 m.2.1 m.2.2.1 m.2.2.2.1 b (b.length : Int) m.2.2.2.2.1 m.2.2.2.2.2) (bindR (rowsS k K O N b d a nx ou) (endI k K O N b)))
 |0, s, a, nx, ou, hd, ha, hn, ho => by
  refine .now fun m => ?_
  rw [st_q10_15b]
  unfold s_q10_15b gs_q10_15b
  rw [br_neg (by omega)]
  simp only [rowsS, bindR_inr, endI]
  by_cases h : a < b.length
  ·rw [br_pos (by omega), if_pos h]
   rfl
  ·have e : a = b.length := by omega
   rw [br_neg (by omega), if_neg h, e]
   rfl
 |d + 1, s, a, nx, ou, hd, ha, hn, ho => by
  have hsN : (s : Int) < N := by omega
  have ih := fun a' nx' ou' h1 h2 h3 => rows_run hK hO hN d (s + 1) a' nx' ou' (by omega) h1 h2 h3
  simp only [rowsS, rowS, bindR_assoc, bindR_inr]
  have tail : ∀ a' nx' ou', a' ≤ b.length -> nx'.length ≤ a' -> ou'.length ≤ a' -> Reach (fun m => (RF G K1 m).2.2.2.1 (s : Int) b (a' : Int) z1 z2 z3 z4 zn zo k K O N nx' ou')
    (outR G (fun m => K1 m.1 m.2.1 m.2.2.1 m.2.2.2.1 b (b.length : Int) m.2.2.2.2.1 m.2.2.2.2.2) (bindR (cellsS k O N b K.toNat 0 a' nx' ou') fun q => bindR (wantS [10] b q.1) fun a2 => bindR (rowsS k K O N b d a2 q.2.1 q.2.2) (endI k K O N b))) := by
   intro a' nx' ou' h1 h2 h3
   refine .step (fun m => ?_) (cells_run hb (K1 := K1) (z1 := z1) (z2 := z2) (z3 := z3) (z4 := z4) (zn := zn) (zo := zo) (s := s) hK hO hN ?_ K.toNat 0 a' nx' ou' (by omega) h1 h2 h3)
   ·rw [st_q10_19b]
    unfold s_q10_19b gs_q10_19b
    rfl
   ·intro a2 nx2 ou2 g1 g2 g3
    cases hw : wantS [10] b a2 with
    |inl e =>
     apply Reach.step (k := f15 (K1 := K1))
     intro m
     rw [st_q10_20b]
     unfold s_q10_20b gs_q10_20b
     rw [br_neg (by omega), want_bad (s := ByteArray.mk #[10]) (sh hb) (by decide) g1 hw]
    |inr a3 =>
     have ha3 := wantS_le hw g1
     have la3 := (wantS_ok hw).1
     refine .step (fun m => ?_) (ih a3 nx2 ou2 ha3 (by omega) (by omega))
     rw [st_q10_20b]
     unfold s_q10_20b gs_q10_20b
     rw [br_neg (by omega), want_ok (s := ByteArray.mk #[10]) (sh hb) (by decide) g1 hw, wr ((s : Int) + 1) (by omega) (by omega)]
     rfl
  unfold leadS
  by_cases hk : k = 1
  ·rw [if_pos hk]
   cases hq : numbS 0 1 33 b a with
   |inl e =>
    apply Reach.step (k := f19 (K1 := K1))
    intro m
    rw [st_q10_15b]
    unfold s_q10_15b gs_q10_15b
    simp only [twice_eq, both_same]
    rw [br_pos hsN, br_eq hk, num_bad (sh hb) ha hq, br_pos (by simp [lim]; omega)]
   |inr q =>
    have hp := numbS_le hq ha
    have lp := numbS_lt hq
    simp only [bindR_inr]
    refine .step (fun m => ?_) (tail q.2 nx (ou ++ [q.1]) hp (by omega) (by simp; omega))
    rw [st_q10_15b]
    unfold s_q10_15b gs_q10_15b
    simp only [twice_eq, both_same]
    rw [br_pos hsN, br_eq hk, num_ok (sh hb) ha hq, br_pos (by simp [lim]; omega)]
  ·rw [if_neg hk]
   simp only [bindR_inr]
   refine .step (fun m => ?_) (tail a nx ou ha hn ho)
   rw [st_q10_15b]
   unfold s_q10_15b gs_q10_15b
   rw [br_pos hsN, br_eq' hk]

theorem read_eq : l_q10 b 0 (fun _ _ _ _ _ _ k p _ _ => G k p) K1 = outR G (fun m => K1 m.1 m.2.1 m.2.2.1 m.2.2.2.1 b (b.length : Int) m.2.2.2.2.1 m.2.2.2.2.2) (readS b) := by
 have hs := sh hb
 refine evl_eq ?_
 have eR : readS b = bindR (headI b) fun h => bindR (rowsS h.1 h.2.1 h.2.2.1 h.2.2.2.1 b h.2.2.2.1.toNat h.2.2.2.2 [] []) (endI h.1 h.2.1 h.2.2.1 h.2.2.2.1 b) := rfl
 rw [eR]
 unfold headI
 have dfa : Reach (fun m => l_qu (ByteArray.mk #[100, 102, 97, 32]) b 0
   (fun r220 r221 r222 r223 => (RF G K1 m).1 0 r220 r221 r222 r223 0 0 0 0 [] [] 1 0 2 0 [] [])
   (fun r242 r243 => l_qz 1 64 1 r242 r243
    (fun r244 r245 r246 r247 r248 => (RF G K1 m).1 0 r245 r246 r247 r248 0 0 0 0 [] [] 1 r244 2 0 [] [])
    (fun r262 r263 r264 => l_qu (ByteArray.mk #[32]) r263 r264
     (fun r265 r266 r267 r268 => (RF G K1 m).1 0 r265 r266 r267 r268 0 0 0 0 [] [] 1 r262 2 0 [] [])
     (fun r278 r279 => l_qz 1 1024 3 r278 r279
      (fun r280 r281 r282 r283 r284 => (RF G K1 m).1 0 r281 r282 r283 r284 0 0 0 0 [] [] 1 r262 2 r280 [] [])
      (fun r289 r290 r291 => l_qu (ByteArray.mk #[10]) r290 r291
       (fun r292 r293 r294 r295 => (RF G K1 m).1 0 r292 r293 r294 r295 0 0 0 0 [] [] 1 r262 2 r289 [] [])
       (fun r296 r297 => (RF G K1 m).2.1 0 r296 r297 0 0 0 0 [] [] 1 r262 2 r289 [] []))))))
   (outR G (fun m => K1 m.1 m.2.1 m.2.2.1 m.2.2.2.1 b (b.length : Int) m.2.2.2.2.1 m.2.2.2.2.2) (bindR (bindR (wantS [100, 102, 97, 32] b 0) fun a0 => bindR (numbS 1 64 1 b a0) fun q1 => bindR (wantS [32] b q1.2) fun a1 =>
    bindR (numbS 1 1024 3 b a1) fun q3 => bindR (wantS [10] b q3.2) fun a3 => .inr (1, q1.1, 2, q3.1, a3)) fun h => bindR (rowsS h.1 h.2.1 h.2.2.1 h.2.2.2.1 b h.2.2.2.1.toNat h.2.2.2.2 [] []) (endI h.1 h.2.1 h.2.2.1 h.2.2.2.1 b))) := by
  cases w0 : wantS [100, 102, 97, 32] b 0 with
  |inl e =>
   apply Reach.same (k := f15 (K1 := K1)); intro m
   exact want_bad (s := ByteArray.mk #[100, 102, 97, 32]) hs (by decide) (Nat.zero_le _) w0 _ _
  |inr a0 =>
   have g0 := wantS_le w0 (Nat.zero_le _)
   have W0 := fun {R : Type} K0 K1 => want_ok (R := R) (s := ByteArray.mk #[100, 102, 97, 32]) hs (by decide) (Nat.zero_le _) w0 K0 K1
   simp only [bindR_inr]
   cases n1 : numbS 1 64 1 b a0 with
   |inl e =>
    apply Reach.same (k := f15 (K1 := K1)); intro m
    exact (W0 _ _).trans (num_bad hs g0 n1 _ _)
   |inr q1 =>
    have g1 := numbS_le n1 g0
    simp only [bindR_inr]
    cases w1 : wantS [32] b q1.2 with
    |inl e =>
     apply Reach.same (k := f15 (K1 := K1)); intro m
     exact (W0 _ _).trans ((num_ok hs g0 n1 _ _).trans (want_bad (s := ByteArray.mk #[32]) hs (by decide) g1 w1 _ _))
    |inr a1 =>
     have g2 := wantS_le w1 g1
     simp only [bindR_inr]
     cases n3 : numbS 1 1024 3 b a1 with
     |inl e =>
      apply Reach.same (k := f15 (K1 := K1)); intro m
      exact (W0 _ _).trans ((num_ok hs g0 n1 _ _).trans ((want_ok (s := ByteArray.mk #[32]) hs (by decide) g1 w1 _ _).trans (num_bad hs g2 n3 _ _)))
     |inr q3 =>
      have g3 := numbS_le n3 g2
      simp only [bindR_inr]
      cases w3 : wantS [10] b q3.2 with
      |inl e =>
       apply Reach.same (k := f15 (K1 := K1)); intro m
       exact (W0 _ _).trans ((num_ok hs g0 n1 _ _).trans ((want_ok (s := ByteArray.mk #[32]) hs (by decide) g1 w1 _ _).trans ((num_ok hs g2 n3 _ _).trans (want_bad (s := ByteArray.mk #[10]) hs (by decide) g3 w3 _ _))))
      |inr a3 =>
       have g4 := wantS_le w3 g3
       simp only [bindR_inr]
       obtain ⟨_, _, k1, k2⟩ := numbS_ok n1
       obtain ⟨_, _, k3, k4⟩ := numbS_ok n3
       refine .same (fun m => ?_) (rows_run hb (z1 := 0) (z2 := 0) (z3 := 0) (z4 := 0) (zn := []) (zo := []) (k := 1) (K := q1.1) (O := 2) (N := q3.1) ⟨k1, k2⟩ ⟨by omega, by omega⟩ ⟨k3, k4⟩ q3.1.toNat 0 a3 [] [] (by omega) g4 (by simp) (by simp))
       exact (W0 _ _).trans ((num_ok hs g0 n1 _ _).trans ((want_ok (s := ByteArray.mk #[32]) hs (by decide) g1 w1 _ _).trans ((num_ok hs g2 n3 _ _).trans (want_ok (s := ByteArray.mk #[10]) hs (by decide) g3 w3 _ _))))
 by_cases h0 : b[0]? = some 109
 ·rw [if_pos h0]
  have hlt : 0 < b.length := (List.getElem?_eq_some_iff.1 h0).1
  have e0 : b.getD 0 0 = 109 := by rw [List.getD_eq_getElem?_getD, h0]; rfl
  cases w0 : wantS [109, 101, 97, 108, 121, 32] b 0 with
  |inl e =>
   apply Reach.same (k := f15 (K1 := K1)); intro m
   unfold e_q10 ge_q10
   simp only [wantf_eq, numf_eq]
   rw [br_pos (by omega), br_pos (by omega), br_eq e0]
   exact want_bad (s := ByteArray.mk #[109, 101, 97, 108, 121, 32]) hs (by decide) (Nat.zero_le _) w0 _ _
  |inr a0 =>
   have g0 := wantS_le w0 (Nat.zero_le _)
   have W0 := fun {R : Type} K0 K1 => want_ok (R := R) (s := ByteArray.mk #[109, 101, 97, 108, 121, 32]) hs (by decide) (Nat.zero_le _) w0 K0 K1
   simp only [bindR_inr]
   cases n1 : numbS 1 64 1 b a0 with
   |inl e =>
    apply Reach.same (k := f15 (K1 := K1)); intro m
    unfold e_q10 ge_q10
    simp only [wantf_eq, numf_eq]
    rw [br_pos (by omega), br_pos (by omega), br_eq e0]
    exact (W0 _ _).trans (num_bad hs g0 n1 _ _)
   |inr q1 =>
    have g1 := numbS_le n1 g0
    simp only [bindR_inr]
    cases w1 : wantS [32] b q1.2 with
    |inl e =>
     apply Reach.same (k := f15 (K1 := K1)); intro m
     unfold e_q10 ge_q10
     simp only [wantf_eq, numf_eq]
     rw [br_pos (by omega), br_pos (by omega), br_eq e0]
     exact (W0 _ _).trans ((num_ok hs g0 n1 _ _).trans (want_bad (s := ByteArray.mk #[32]) hs (by decide) g1 w1 _ _))
    |inr a1 =>
     have g2 := wantS_le w1 g1
     simp only [bindR_inr]
     cases n2 : numbS 1 64 33 b a1 with
     |inl e =>
      apply Reach.same (k := f15 (K1 := K1)); intro m
      unfold e_q10 ge_q10
      simp only [wantf_eq, numf_eq]
      rw [br_pos (by omega), br_pos (by omega), br_eq e0]
      exact (W0 _ _).trans ((num_ok hs g0 n1 _ _).trans ((want_ok (s := ByteArray.mk #[32]) hs (by decide) g1 w1 _ _).trans (num_bad hs g2 n2 _ _)))
     |inr q2 =>
      have g3 := numbS_le n2 g2
      simp only [bindR_inr]
      cases w2 : wantS [32] b q2.2 with
      |inl e =>
       apply Reach.same (k := f15 (K1 := K1)); intro m
       unfold e_q10 ge_q10
       simp only [wantf_eq, numf_eq]
       rw [br_pos (by omega), br_pos (by omega), br_eq e0]
       exact (W0 _ _).trans ((num_ok hs g0 n1 _ _).trans ((want_ok (s := ByteArray.mk #[32]) hs (by decide) g1 w1 _ _).trans ((num_ok hs g2 n2 _ _).trans (want_bad (s := ByteArray.mk #[32]) hs (by decide) g3 w2 _ _))))
      |inr a2 =>
       have g4 := wantS_le w2 g3
       simp only [bindR_inr]
       cases n3 : numbS 1 1024 3 b a2 with
       |inl e =>
        apply Reach.same (k := f15 (K1 := K1)); intro m
        unfold e_q10 ge_q10
        simp only [wantf_eq, numf_eq]
        rw [br_pos (by omega), br_pos (by omega), br_eq e0]
        exact (W0 _ _).trans ((num_ok hs g0 n1 _ _).trans ((want_ok (s := ByteArray.mk #[32]) hs (by decide) g1 w1 _ _).trans ((num_ok hs g2 n2 _ _).trans ((want_ok (s := ByteArray.mk #[32]) hs (by decide) g3 w2 _ _).trans (num_bad hs g4 n3 _ _)))))
       |inr q3 =>
        have g5 := numbS_le n3 g4
        simp only [bindR_inr]
        cases w3 : wantS [10] b q3.2 with
        |inl e =>
         apply Reach.same (k := f15 (K1 := K1)); intro m
         unfold e_q10 ge_q10
         simp only [wantf_eq, numf_eq]
         rw [br_pos (by omega), br_pos (by omega), br_eq e0]
         exact (W0 _ _).trans ((num_ok hs g0 n1 _ _).trans ((want_ok (s := ByteArray.mk #[32]) hs (by decide) g1 w1 _ _).trans ((num_ok hs g2 n2 _ _).trans ((want_ok (s := ByteArray.mk #[32]) hs (by decide) g3 w2 _ _).trans ((num_ok hs g4 n3 _ _).trans (want_bad (s := ByteArray.mk #[10]) hs (by decide) g5 w3 _ _))))))
        |inr a3 =>
         have g6 := wantS_le w3 g5
         simp only [bindR_inr]
         obtain ⟨_, _, k1, k2⟩ := numbS_ok n1
         obtain ⟨_, _, k3, k4⟩ := numbS_ok n2
         obtain ⟨_, _, k5, k6⟩ := numbS_ok n3
         refine .same (fun m => ?_) (rows_run hb (z1 := 0) (z2 := 0) (z3 := 0) (z4 := 0) (zn := []) (zo := []) (k := 2) (K := q1.1) (O := q2.1) (N := q3.1) ⟨k1, k2⟩ ⟨k3, k4⟩ ⟨k5, k6⟩ q3.1.toNat 0 a3 [] [] (by omega) g6 (by simp) (by simp))
         unfold e_q10 ge_q10
         simp only [wantf_eq, numf_eq]
         rw [br_pos (by omega), br_pos (by omega), br_eq e0]
         exact (W0 _ _).trans ((num_ok hs g0 n1 _ _).trans ((want_ok (s := ByteArray.mk #[32]) hs (by decide) g1 w1 _ _).trans ((num_ok hs g2 n2 _ _).trans ((want_ok (s := ByteArray.mk #[32]) hs (by decide) g3 w2 _ _).trans ((num_ok hs g4 n3 _ _).trans (want_ok (s := ByteArray.mk #[10]) hs (by decide) g5 w3 _ _))))))
 ·rw [if_neg h0]
  refine .same (fun m => ?_) dfa
  unfold e_q10 ge_q10
  simp only [wantf_eq, numf_eq]
  by_cases hl : 0 < b.length
  ·have e0 : ¬ b.getD 0 0 = 109 := by
    intro h
    apply h0
    rw [List.getElem?_eq_getElem hl]
    rw [getD_of 0 hl] at h
    rw [h]
   rw [br_pos (by omega), br_pos (by omega), br_eq' e0]
  ·rw [br_neg (by omega)]
end reading

abbrev LT_q12 := {R : Type} -> Int -> Int -> (Int -> Int -> Option R) -> Option R
/-- errors.As -/
def l_q12 {R : Type} (o0 : Int) (o0_1 : Int) (K0 : Int -> Int -> Option R) : Option R := K0 o0 o0_1

abbrev LT_q14 := {R : Type} -> (Option R) -> Option R
/-- errors.As -/
def l_q14 {R : Type}  (K0 : Option R) : Option R := K0 

abbrev KT0_q15 (R : Type) := Int -> Int -> Int -> Int -> Int -> Int -> (List Int) -> (List Int) -> Option R
abbrev LT_q15 := {R : Type} -> (List Int) -> (KT0_q15 R) -> Option R
abbrev gl_q15 (l_q12 : LT_q12) (l_q14 : LT_q14) (l_q10 : LT_q10) {R : Type} (b : List Int) (K0 : KT0_q15 R) : Option R :=
 bi (decide ((b.length : Int) > 16777216)) (K0 0 0 0 0 2 0 ([] : List Int) ([] : List Int)) (l_q10 b 0 (fun r1 r2 r3 r4 r5 r6 r7 r8 r9 r10 => l_q12 r7 r8 (fun r11 r12 => both (both (both (thrice (K0 0 0 0 0 r11 r12 ([] : List Int) ([] : List Int))) (both (twice (K0 0 0 0 0 r11 r12 ([] : List Int) ([] : List Int)))
 (K0 0 0 0 0 r11 r12 ([] : List Int) ([] : List Int)))) (both (both (thrice (K0 0 0 0 0 r11 r12 ([] : List Int) ([] : List Int))) (both (twice (K0 0 0 0 0 r11 r12 ([] : List Int) ([] : List Int))) (both (twice (K0 0 0 0 0 r11 r12 ([] : List Int) ([] : List Int))) (K0 0 0 0 0 r11 r12 ([] : List Int) ([] : List Int))))) (twice (both (twice (K0 0 0 0 0 r11 r12 ([] : List Int) ([] : List Int)))
 (K0 0 0 0 0 r11 r12 ([] : List Int) ([] : List Int)))))) (both (both (both (thrice (K0 0 0 0 0 r11 r12 ([] : List Int) ([] : List Int))) (both (twice (K0 0 0 0 0 r11 r12 ([] : List Int) ([] : List Int))) (both (twice (K0 0 0 0 0 r11 r12 ([] : List Int) ([] : List Int))) (K0 0 0 0 0 r11 r12 ([] : List Int) ([] : List Int))))) (both (both (twice (K0 0 0 0 0 r11 r12 ([] : List Int) ([] : List Int)))
 (K0 0 0 0 0 r11 r12 ([] : List Int) ([] : List Int))) (both (both (twice (K0 0 0 0 0 r11 r12 ([] : List Int) ([] : List Int))) (K0 0 0 0 0 r11 r12 ([] : List Int) ([] : List Int))) (K0 0 0 0 0 r11 r12 ([] : List Int) ([] : List Int))))) (both (twice (both (twice (K0 0 0 0 0 r11 r12 ([] : List Int) ([] : List Int))) (K0 0 0 0 0 r11 r12 ([] : List Int) ([] : List Int)))) (both (both (twice
 (K0 0 0 0 0 r11 r12 ([] : List Int) ([] : List Int))) (K0 0 0 0 0 r11 r12 ([] : List Int) ([] : List Int))) (K0 0 0 0 0 r11 r12 ([] : List Int) ([] : List Int))))))) (fun r13 r14 r15 r16 r17 r18 r19 r20 => l_q14 (K0 r13 r14 r15 r16 0 (b.length : Int) r19 r20)))

def l_q15 {R : Type} := @gl_q15 @l_q12 @l_q14 @l_q10 R

theorem import_eq {R : Type} (b : List Int) (K0 : Int -> Int -> Int -> Int -> Int -> Int -> List Int -> List Int -> Option R) :
  l_q15 b K0 = K0 (impS b).k (impS b).K (impS b).O (impS b).N (impS b).e (impS b).p (impS b).nx (impS b).ou := by
 unfold l_q15 gl_q15 impS
 by_cases h : (b.length : Int) > 16777216
 ·rw [br_pos h, if_pos h]
 ·rw [br_neg h, if_neg h]
  simp only [l_q12, l_q14, both_same, twice_eq, thrice_eq]
  rw [read_eq (G := fun k p => K0 0 0 0 0 k p [] []) (by omega)]
  cases readS b <;> rfl

abbrev KT0_q16 (R : Type) := Int -> Int -> Int -> Int -> Int -> Int -> (List Int) -> Int -> Int -> (List Int) -> (List Int) -> (List Int) -> (List Int) -> (List Int) -> Option R
abbrev LT_q16 := {R : Type} -> (List Int) -> Int -> Int -> (KT0_q16 R) -> Option R
abbrev gl_q16 (l_q1 : LT_q1) (l_q9 : LT_q9) (l_q4 : LT_q4) (l_q15 : LT_q15) (l_qt : LT_qt) {R : Type} (o0 : List Int) (o0_1 o0_2 : Int) (K0 : KT0_q16 R) : Option R :=
 l_q1 (ByteArray.mk #[10]) o0 o0_1 o0_2 (fun r1 r2 r3 => bi (r3 != 0) (K0 2 0 0 0 0 0 r1 r2 r3 ([] : List Int) ([] : List Int) ([] : List Int) ([] : List Int) ([] : List Int)) (both (both (bi (decide (0 ≤ (IntKind.i64.wrap (r2 - 1)) ∧ (IntKind.i64.wrap (r2 - 1)) ≤ ((r1.length : Nat) : Int))) (bi (decide (0 < [10, 61].length))
 (l_qt ((r1.drop ((IntKind.i64.wrap (r2 - 1)).toNat)).take (r1.length - ((IntKind.i64.wrap (r2 - 1)).toNat))) [10, 61] (fun r4 => bi (decide (r4 < 0)) (K0 2 0 0 0 0 0 r1 (r1.length : Int) 6 ([] : List Int) ([] : List Int) ([] : List Int) ([] : List Int) ([] : List Int)) (bi (decide (0 ≤ r2 ∧ r2 ≤ (IntKind.i64.wrap (r4 + r2)) ∧ (IntKind.i64.wrap (r4 + r2)) ≤ ((r1.length : Nat) : Int)))
 (l_q15 ((r1.drop r2.toNat).take (((IntKind.i64.wrap (r4 + r2)).toNat) - r2.toNat)) (fun r5 r6 r7 r8 r9 r10 r11 r12 => bi (r9 != 0) (K0 2 0 0 0 0 0 r1 (IntKind.i64.wrap (r2 + r10)) r9 ([] : List Int) ([] : List Int) ([] : List Int) ([] : List Int) ([] : List Int)) (l_q1 (ByteArray.mk #[61, 32]) r1 (IntKind.i64.wrap (r2 + r10)) r3 (fun r13 r14 r15 =>
 l_q4 (ByteArray.mk #[121]) r13 r14 r15 (fun r16 r17 r18 r19 => bi r16 (l_q1 (ByteArray.mk #[10]) r17 r18 r19 (fun r20 r21 r22 => K0 2 r5 r6 r7 r8 2 r20 r21 r22 ([] : List Int) r11 r12 ([] : List Int) ([] : List Int))) (l_q1 (ByteArray.mk #[110]) r17 r18 r19 (fun r23 r24 r25 => l_q9 true r23 r24 r25 (fun r26 r27 r28 r29 =>
 l_q1 (ByteArray.mk #[10]) r26 r27 r28 (fun r30 r31 r32 => K0 2 r5 r6 r7 r8 3 r30 r31 r32 ([] : List Int) r11 r12 ([] : List Int) r29))))))))) none))) none) none) (both (bi (decide (0 ≤ (IntKind.i64.wrap (r2 - 1)) ∧ (IntKind.i64.wrap (r2 - 1)) ≤ ((r1.length : Nat) : Int))) (bi (decide (0 < [10, 61].length))
 (l_qt ((r1.drop ((IntKind.i64.wrap (r2 - 1)).toNat)).take (r1.length - ((IntKind.i64.wrap (r2 - 1)).toNat))) [10, 61] (fun r4 => bi (decide (r4 < 0)) (K0 2 0 0 0 0 0 r1 (r1.length : Int) 6 ([] : List Int) ([] : List Int) ([] : List Int) ([] : List Int) ([] : List Int)) (bi (decide (0 ≤ r2 ∧ r2 ≤ (IntKind.i64.wrap (r4 + r2)) ∧ (IntKind.i64.wrap (r4 + r2)) ≤ ((r1.length : Nat) : Int)))
 (l_q15 ((r1.drop r2.toNat).take (((IntKind.i64.wrap (r4 + r2)).toNat) - r2.toNat)) (fun r5 r6 r7 r8 r9 r10 r11 r12 => bi (r9 != 0) (K0 2 0 0 0 0 0 r1 (IntKind.i64.wrap (r2 + r10)) r9 ([] : List Int) ([] : List Int) ([] : List Int) ([] : List Int) ([] : List Int)) (l_q1 (ByteArray.mk #[61, 32]) r1 (IntKind.i64.wrap (r2 + r10)) r3 (fun r13 r14 r15 =>
 l_q4 (ByteArray.mk #[121]) r13 r14 r15 (fun r16 r17 r18 r19 => bi r16 (l_q1 (ByteArray.mk #[10]) r17 r18 r19 (fun r20 r21 r22 => K0 2 r5 r6 r7 r8 2 r20 r21 r22 ([] : List Int) r11 r12 ([] : List Int) ([] : List Int))) (l_q1 (ByteArray.mk #[110]) r17 r18 r19 (fun r23 r24 r25 => l_q9 true r23 r24 r25 (fun r26 r27 r28 r29 =>
 l_q1 (ByteArray.mk #[10]) r26 r27 r28 (fun r30 r31 r32 => K0 2 r5 r6 r7 r8 3 r30 r31 r32 ([] : List Int) r11 r12 ([] : List Int) r29))))))))) none))) none) none) (bi (decide (0 < [10, 61].length)) (bi (decide (0 ≤ (IntKind.i64.wrap (r2 - 1)) ∧ (IntKind.i64.wrap (r2 - 1)) ≤ ((r1.length : Nat) : Int)))
 (l_qt ((r1.drop ((IntKind.i64.wrap (r2 - 1)).toNat)).take (r1.length - ((IntKind.i64.wrap (r2 - 1)).toNat))) [10, 61] (fun r4 => bi (decide (r4 < 0)) (K0 2 0 0 0 0 0 r1 (r1.length : Int) 6 ([] : List Int) ([] : List Int) ([] : List Int) ([] : List Int) ([] : List Int)) (bi (decide (0 ≤ r2 ∧ r2 ≤ (IntKind.i64.wrap (r4 + r2)) ∧ (IntKind.i64.wrap (r4 + r2)) ≤ ((r1.length : Nat) : Int)))
 (l_q15 ((r1.drop r2.toNat).take (((IntKind.i64.wrap (r4 + r2)).toNat) - r2.toNat)) (fun r5 r6 r7 r8 r9 r10 r11 r12 => bi (r9 != 0) (K0 2 0 0 0 0 0 r1 (IntKind.i64.wrap (r2 + r10)) r9 ([] : List Int) ([] : List Int) ([] : List Int) ([] : List Int) ([] : List Int)) (l_q1 (ByteArray.mk #[61, 32]) r1 (IntKind.i64.wrap (r2 + r10)) r3 (fun r13 r14 r15 =>
 l_q4 (ByteArray.mk #[121]) r13 r14 r15 (fun r16 r17 r18 r19 => bi r16 (l_q1 (ByteArray.mk #[10]) r17 r18 r19 (fun r20 r21 r22 => K0 2 r5 r6 r7 r8 2 r20 r21 r22 ([] : List Int) r11 r12 ([] : List Int) ([] : List Int))) (l_q1 (ByteArray.mk #[110]) r17 r18 r19 (fun r23 r24 r25 => l_q9 true r23 r24 r25 (fun r26 r27 r28 r29 =>
 l_q1 (ByteArray.mk #[10]) r26 r27 r28 (fun r30 r31 r32 => K0 2 r5 r6 r7 r8 3 r30 r31 r32 ([] : List Int) r11 r12 ([] : List Int) r29))))))))) none))) none) none))) (both (both (bi (decide (0 ≤ (IntKind.i64.wrap (r2 - 1)) ∧ (IntKind.i64.wrap (r2 - 1)) ≤ ((r1.length : Nat) : Int))) (bi (decide (0 < [10, 61].length))
 (l_qt ((r1.drop ((IntKind.i64.wrap (r2 - 1)).toNat)).take (r1.length - ((IntKind.i64.wrap (r2 - 1)).toNat))) [10, 61] (fun r4 => bi (decide (r4 < 0)) (K0 2 0 0 0 0 0 r1 (r1.length : Int) 6 ([] : List Int) ([] : List Int) ([] : List Int) ([] : List Int) ([] : List Int)) (bi (decide (0 ≤ r2 ∧ r2 ≤ (IntKind.i64.wrap (r4 + r2)) ∧ (IntKind.i64.wrap (r4 + r2)) ≤ ((r1.length : Nat) : Int)))
 (l_q15 ((r1.drop r2.toNat).take (((IntKind.i64.wrap (r4 + r2)).toNat) - r2.toNat)) (fun r5 r6 r7 r8 r9 r10 r11 r12 => bi (r9 != 0) (K0 2 0 0 0 0 0 r1 (IntKind.i64.wrap (r2 + r10)) r9 ([] : List Int) ([] : List Int) ([] : List Int) ([] : List Int) ([] : List Int)) (l_q1 (ByteArray.mk #[61, 32]) r1 (IntKind.i64.wrap (r2 + r10)) r3 (fun r13 r14 r15 =>
 l_q4 (ByteArray.mk #[121]) r13 r14 r15 (fun r16 r17 r18 r19 => bi r16 (l_q1 (ByteArray.mk #[10]) r17 r18 r19 (fun r20 r21 r22 => K0 2 r5 r6 r7 r8 2 r20 r21 r22 ([] : List Int) r11 r12 ([] : List Int) ([] : List Int))) (l_q1 (ByteArray.mk #[110]) r17 r18 r19 (fun r23 r24 r25 => l_q9 true r23 r24 r25 (fun r26 r27 r28 r29 =>
 l_q1 (ByteArray.mk #[10]) r26 r27 r28 (fun r30 r31 r32 => K0 2 r5 r6 r7 r8 3 r30 r31 r32 ([] : List Int) r11 r12 ([] : List Int) r29))))))))) none))) none) none) (both (bi (decide (0 ≤ (IntKind.i64.wrap (r2 - 1)) ∧ (IntKind.i64.wrap (r2 - 1)) ≤ ((r1.length : Nat) : Int))) (bi (decide (0 < [10, 61].length))
 (l_qt ((r1.drop ((IntKind.i64.wrap (r2 - 1)).toNat)).take (r1.length - ((IntKind.i64.wrap (r2 - 1)).toNat))) [10, 61] (fun r4 => bi (decide (r4 < 0)) (K0 2 0 0 0 0 0 r1 (r1.length : Int) 6 ([] : List Int) ([] : List Int) ([] : List Int) ([] : List Int) ([] : List Int)) (bi (decide (0 ≤ r2 ∧ r2 ≤ (IntKind.i64.wrap (r4 + r2)) ∧ (IntKind.i64.wrap (r4 + r2)) ≤ ((r1.length : Nat) : Int)))
 (l_q15 ((r1.drop r2.toNat).take (((IntKind.i64.wrap (r4 + r2)).toNat) - r2.toNat)) (fun r5 r6 r7 r8 r9 r10 r11 r12 => bi (r9 != 0) (K0 2 0 0 0 0 0 r1 (IntKind.i64.wrap (r2 + r10)) r9 ([] : List Int) ([] : List Int) ([] : List Int) ([] : List Int) ([] : List Int)) (l_q1 (ByteArray.mk #[61, 32]) r1 (IntKind.i64.wrap (r2 + r10)) r3 (fun r13 r14 r15 =>
 l_q4 (ByteArray.mk #[121]) r13 r14 r15 (fun r16 r17 r18 r19 => bi r16 (l_q1 (ByteArray.mk #[10]) r17 r18 r19 (fun r20 r21 r22 => K0 2 r5 r6 r7 r8 2 r20 r21 r22 ([] : List Int) r11 r12 ([] : List Int) ([] : List Int))) (l_q1 (ByteArray.mk #[110]) r17 r18 r19 (fun r23 r24 r25 => l_q9 true r23 r24 r25 (fun r26 r27 r28 r29 =>
 l_q1 (ByteArray.mk #[10]) r26 r27 r28 (fun r30 r31 r32 => K0 2 r5 r6 r7 r8 3 r30 r31 r32 ([] : List Int) r11 r12 ([] : List Int) r29))))))))) none))) none) none) (bi (decide (0 < [10, 61].length)) (bi (decide (0 ≤ (IntKind.i64.wrap (r2 - 1)) ∧ (IntKind.i64.wrap (r2 - 1)) ≤ ((r1.length : Nat) : Int)))
 (l_qt ((r1.drop ((IntKind.i64.wrap (r2 - 1)).toNat)).take (r1.length - ((IntKind.i64.wrap (r2 - 1)).toNat))) [10, 61] (fun r4 => bi (decide (r4 < 0)) (K0 2 0 0 0 0 0 r1 (r1.length : Int) 6 ([] : List Int) ([] : List Int) ([] : List Int) ([] : List Int) ([] : List Int)) (bi (decide (0 ≤ r2 ∧ r2 ≤ (IntKind.i64.wrap (r4 + r2)) ∧ (IntKind.i64.wrap (r4 + r2)) ≤ ((r1.length : Nat) : Int)))
 (l_q15 ((r1.drop r2.toNat).take (((IntKind.i64.wrap (r4 + r2)).toNat) - r2.toNat)) (fun r5 r6 r7 r8 r9 r10 r11 r12 => bi (r9 != 0) (K0 2 0 0 0 0 0 r1 (IntKind.i64.wrap (r2 + r10)) r9 ([] : List Int) ([] : List Int) ([] : List Int) ([] : List Int) ([] : List Int)) (l_q1 (ByteArray.mk #[61, 32]) r1 (IntKind.i64.wrap (r2 + r10)) r3 (fun r13 r14 r15 =>
 l_q4 (ByteArray.mk #[121]) r13 r14 r15 (fun r16 r17 r18 r19 => bi r16 (l_q1 (ByteArray.mk #[10]) r17 r18 r19 (fun r20 r21 r22 => K0 2 r5 r6 r7 r8 2 r20 r21 r22 ([] : List Int) r11 r12 ([] : List Int) ([] : List Int))) (l_q1 (ByteArray.mk #[110]) r17 r18 r19 (fun r23 r24 r25 => l_q9 true r23 r24 r25 (fun r26 r27 r28 r29 =>
 l_q1 (ByteArray.mk #[10]) r26 r27 r28 (fun r30 r31 r32 => K0 2 r5 r6 r7 r8 3 r30 r31 r32 ([] : List Int) r11 r12 ([] : List Int) r29))))))))) none))) none) none))) (both (both (bi (decide (0 ≤ (IntKind.i64.wrap (r2 - 1)) ∧ (IntKind.i64.wrap (r2 - 1)) ≤ ((r1.length : Nat) : Int))) (bi (decide (0 < [10, 61].length))
 (l_qt ((r1.drop ((IntKind.i64.wrap (r2 - 1)).toNat)).take (r1.length - ((IntKind.i64.wrap (r2 - 1)).toNat))) [10, 61] (fun r4 => bi (decide (r4 < 0)) (K0 2 0 0 0 0 0 r1 (r1.length : Int) 6 ([] : List Int) ([] : List Int) ([] : List Int) ([] : List Int) ([] : List Int)) (bi (decide (0 ≤ r2 ∧ r2 ≤ (IntKind.i64.wrap (r4 + r2)) ∧ (IntKind.i64.wrap (r4 + r2)) ≤ ((r1.length : Nat) : Int)))
 (l_q15 ((r1.drop r2.toNat).take (((IntKind.i64.wrap (r4 + r2)).toNat) - r2.toNat)) (fun r5 r6 r7 r8 r9 r10 r11 r12 => bi (r9 != 0) (K0 2 0 0 0 0 0 r1 (IntKind.i64.wrap (r2 + r10)) r9 ([] : List Int) ([] : List Int) ([] : List Int) ([] : List Int) ([] : List Int)) (l_q1 (ByteArray.mk #[61, 32]) r1 (IntKind.i64.wrap (r2 + r10)) r3 (fun r13 r14 r15 =>
 l_q4 (ByteArray.mk #[121]) r13 r14 r15 (fun r16 r17 r18 r19 => bi r16 (l_q1 (ByteArray.mk #[10]) r17 r18 r19 (fun r20 r21 r22 => K0 2 r5 r6 r7 r8 2 r20 r21 r22 ([] : List Int) r11 r12 ([] : List Int) ([] : List Int))) (l_q1 (ByteArray.mk #[110]) r17 r18 r19 (fun r23 r24 r25 => l_q9 true r23 r24 r25 (fun r26 r27 r28 r29 =>
 l_q1 (ByteArray.mk #[10]) r26 r27 r28 (fun r30 r31 r32 => K0 2 r5 r6 r7 r8 3 r30 r31 r32 ([] : List Int) r11 r12 ([] : List Int) r29))))))))) none))) none) none) (bi (decide (0 < [10, 61].length)) (bi (decide (0 ≤ (IntKind.i64.wrap (r2 - 1)) ∧ (IntKind.i64.wrap (r2 - 1)) ≤ ((r1.length : Nat) : Int)))
 (l_qt ((r1.drop ((IntKind.i64.wrap (r2 - 1)).toNat)).take (r1.length - ((IntKind.i64.wrap (r2 - 1)).toNat))) [10, 61] (fun r4 => bi (decide (r4 < 0)) (K0 2 0 0 0 0 0 r1 (r1.length : Int) 6 ([] : List Int) ([] : List Int) ([] : List Int) ([] : List Int) ([] : List Int)) (bi (decide (0 ≤ r2 ∧ r2 ≤ (IntKind.i64.wrap (r4 + r2)) ∧ (IntKind.i64.wrap (r4 + r2)) ≤ ((r1.length : Nat) : Int)))
 (l_q15 ((r1.drop r2.toNat).take (((IntKind.i64.wrap (r4 + r2)).toNat) - r2.toNat)) (fun r5 r6 r7 r8 r9 r10 r11 r12 => bi (r9 != 0) (K0 2 0 0 0 0 0 r1 (IntKind.i64.wrap (r2 + r10)) r9 ([] : List Int) ([] : List Int) ([] : List Int) ([] : List Int) ([] : List Int)) (l_q1 (ByteArray.mk #[61, 32]) r1 (IntKind.i64.wrap (r2 + r10)) r3 (fun r13 r14 r15 =>
 l_q4 (ByteArray.mk #[121]) r13 r14 r15 (fun r16 r17 r18 r19 => bi r16 (l_q1 (ByteArray.mk #[10]) r17 r18 r19 (fun r20 r21 r22 => K0 2 r5 r6 r7 r8 2 r20 r21 r22 ([] : List Int) r11 r12 ([] : List Int) ([] : List Int))) (l_q1 (ByteArray.mk #[110]) r17 r18 r19 (fun r23 r24 r25 => l_q9 true r23 r24 r25 (fun r26 r27 r28 r29 =>
 l_q1 (ByteArray.mk #[10]) r26 r27 r28 (fun r30 r31 r32 => K0 2 r5 r6 r7 r8 3 r30 r31 r32 ([] : List Int) r11 r12 ([] : List Int) r29))))))))) none))) none) none)) (both (both (bi (decide (0 ≤ (IntKind.i64.wrap (r2 - 1)) ∧ (IntKind.i64.wrap (r2 - 1)) ≤ ((r1.length : Nat) : Int))) (bi (decide (0 < [10, 61].length))
 (l_qt ((r1.drop ((IntKind.i64.wrap (r2 - 1)).toNat)).take (r1.length - ((IntKind.i64.wrap (r2 - 1)).toNat))) [10, 61] (fun r4 => bi (decide (r4 < 0)) (K0 2 0 0 0 0 0 r1 (r1.length : Int) 6 ([] : List Int) ([] : List Int) ([] : List Int) ([] : List Int) ([] : List Int)) (bi (decide (0 ≤ r2 ∧ r2 ≤ (IntKind.i64.wrap (r4 + r2)) ∧ (IntKind.i64.wrap (r4 + r2)) ≤ ((r1.length : Nat) : Int)))
 (l_q15 ((r1.drop r2.toNat).take (((IntKind.i64.wrap (r4 + r2)).toNat) - r2.toNat)) (fun r5 r6 r7 r8 r9 r10 r11 r12 => bi (r9 != 0) (K0 2 0 0 0 0 0 r1 (IntKind.i64.wrap (r2 + r10)) r9 ([] : List Int) ([] : List Int) ([] : List Int) ([] : List Int) ([] : List Int)) (l_q1 (ByteArray.mk #[61, 32]) r1 (IntKind.i64.wrap (r2 + r10)) r3 (fun r13 r14 r15 =>
 l_q4 (ByteArray.mk #[121]) r13 r14 r15 (fun r16 r17 r18 r19 => bi r16 (l_q1 (ByteArray.mk #[10]) r17 r18 r19 (fun r20 r21 r22 => K0 2 r5 r6 r7 r8 2 r20 r21 r22 ([] : List Int) r11 r12 ([] : List Int) ([] : List Int))) (l_q1 (ByteArray.mk #[110]) r17 r18 r19 (fun r23 r24 r25 => l_q9 true r23 r24 r25 (fun r26 r27 r28 r29 =>
 l_q1 (ByteArray.mk #[10]) r26 r27 r28 (fun r30 r31 r32 => K0 2 r5 r6 r7 r8 3 r30 r31 r32 ([] : List Int) r11 r12 ([] : List Int) r29))))))))) none))) none) none) (bi (decide (0 < [10, 61].length)) (bi (decide (0 ≤ (IntKind.i64.wrap (r2 - 1)) ∧ (IntKind.i64.wrap (r2 - 1)) ≤ ((r1.length : Nat) : Int)))
 (l_qt ((r1.drop ((IntKind.i64.wrap (r2 - 1)).toNat)).take (r1.length - ((IntKind.i64.wrap (r2 - 1)).toNat))) [10, 61] (fun r4 => bi (decide (r4 < 0)) (K0 2 0 0 0 0 0 r1 (r1.length : Int) 6 ([] : List Int) ([] : List Int) ([] : List Int) ([] : List Int) ([] : List Int)) (bi (decide (0 ≤ r2 ∧ r2 ≤ (IntKind.i64.wrap (r4 + r2)) ∧ (IntKind.i64.wrap (r4 + r2)) ≤ ((r1.length : Nat) : Int)))
 (l_q15 ((r1.drop r2.toNat).take (((IntKind.i64.wrap (r4 + r2)).toNat) - r2.toNat)) (fun r5 r6 r7 r8 r9 r10 r11 r12 => bi (r9 != 0) (K0 2 0 0 0 0 0 r1 (IntKind.i64.wrap (r2 + r10)) r9 ([] : List Int) ([] : List Int) ([] : List Int) ([] : List Int) ([] : List Int)) (l_q1 (ByteArray.mk #[61, 32]) r1 (IntKind.i64.wrap (r2 + r10)) r3 (fun r13 r14 r15 =>
 l_q4 (ByteArray.mk #[121]) r13 r14 r15 (fun r16 r17 r18 r19 => bi r16 (l_q1 (ByteArray.mk #[10]) r17 r18 r19 (fun r20 r21 r22 => K0 2 r5 r6 r7 r8 2 r20 r21 r22 ([] : List Int) r11 r12 ([] : List Int) ([] : List Int))) (l_q1 (ByteArray.mk #[110]) r17 r18 r19 (fun r23 r24 r25 => l_q9 true r23 r24 r25 (fun r26 r27 r28 r29 =>
 l_q1 (ByteArray.mk #[10]) r26 r27 r28 (fun r30 r31 r32 => K0 2 r5 r6 r7 r8 3 r30 r31 r32 ([] : List Int) r11 r12 ([] : List Int) r29))))))))) none))) none) none)) (bi (decide (0 < [10, 61].length)) (twice (bi (decide (0 ≤ (IntKind.i64.wrap (r2 - 1)) ∧ (IntKind.i64.wrap (r2 - 1)) ≤ ((r1.length : Nat) : Int)))
 (l_qt ((r1.drop ((IntKind.i64.wrap (r2 - 1)).toNat)).take (r1.length - ((IntKind.i64.wrap (r2 - 1)).toNat))) [10, 61] (fun r4 => bi (decide (r4 < 0)) (K0 2 0 0 0 0 0 r1 (r1.length : Int) 6 ([] : List Int) ([] : List Int) ([] : List Int) ([] : List Int) ([] : List Int)) (bi (decide (0 ≤ r2 ∧ r2 ≤ (IntKind.i64.wrap (r4 + r2)) ∧ (IntKind.i64.wrap (r4 + r2)) ≤ ((r1.length : Nat) : Int)))
 (l_q15 ((r1.drop r2.toNat).take (((IntKind.i64.wrap (r4 + r2)).toNat) - r2.toNat)) (fun r5 r6 r7 r8 r9 r10 r11 r12 => bi (r9 != 0) (K0 2 0 0 0 0 0 r1 (IntKind.i64.wrap (r2 + r10)) r9 ([] : List Int) ([] : List Int) ([] : List Int) ([] : List Int) ([] : List Int)) (l_q1 (ByteArray.mk #[61, 32]) r1 (IntKind.i64.wrap (r2 + r10)) r3 (fun r13 r14 r15 =>
 l_q4 (ByteArray.mk #[121]) r13 r14 r15 (fun r16 r17 r18 r19 => bi r16 (l_q1 (ByteArray.mk #[10]) r17 r18 r19 (fun r20 r21 r22 => K0 2 r5 r6 r7 r8 2 r20 r21 r22 ([] : List Int) r11 r12 ([] : List Int) ([] : List Int))) (l_q1 (ByteArray.mk #[110]) r17 r18 r19 (fun r23 r24 r25 => l_q9 true r23 r24 r25 (fun r26 r27 r28 r29 =>
 l_q1 (ByteArray.mk #[10]) r26 r27 r28 (fun r30 r31 r32 => K0 2 r5 r6 r7 r8 3 r30 r31 r32 ([] : List Int) r11 r12 ([] : List Int) r29))))))))) none))) none)) none))))))

def l_q16 {R : Type} := @gl_q16 @l_q1 @l_q9 @l_q4 @l_q15 @l_qt R

theorem lhypo_bad {R : Type} {b : List Int} (hs : b.length ≤ 17000000) {r : Rd Nat} (hr : okR b r) {f : Int × Int} (h : wnt [10] b r = .inl f) (K0 : Int -> Int -> Int -> Int -> Int -> Int -> List Int -> Int -> Int -> List Int -> List Int -> List Int -> List Int -> List Int -> Option R) :
  l_q16 b (stA r) (stE r) K0 = K0 2 0 0 0 0 0 b f.2 f.1 [] [] [] [] [] := by
 have hsh : short b := by unfold short; omega
 have e5 : bts (ByteArray.mk #[10]) = [10] := rfl
 have hok : okR b (wnt [10] b r) := wnt_ok hr
 rw [h] at hok
 have hf : f.1 ≠ 0 := hok
 unfold l_q16 gl_q16
 rw [lwant_eq hsh _ (by decide) hr, e5]
 try dsimp only
 rw [show bindR r (wantS [10] b) = wnt [10] b r from rfl, h]
 show bi (f.1 != 0) _ _ = _
 rw [br_ne hf]
 rfl

theorem lhypo_eq {R : Type} {b : List Int} (hs : b.length ≤ 16777216) (hb : isB8 b) {r : Rd Nat} (hr : okR b r) {a : Nat} (h : wnt [10] b r = .inr a) (K0 : Int -> Int -> Int -> Int -> Int -> Int -> List Int -> Int -> Int -> List Int -> List Int -> List Int -> List Int -> List Int -> Option R) :
  l_q16 b (stA r) (stE r) K0 =
   if hypEnd b a < 0 ∨ (hypImp b a).e ≠ 0 then K0 2 0 0 0 0 0 b (stA (hypM b a)) (stE (hypM b a)) [] [] [] [] []
   else K0 2 (hypImp b a).k (hypImp b a).K (hypImp b a).O (hypImp b a).N (if hypY b a = true then 2 else 3) b (stA (hypZ b a)) (stE (hypZ b a)) [] (hypImp b a).nx (hypImp b a).ou [] (if hypY b a = true then [] else roV (hypN b a)) := by
 have hsh : short b := by unfold short; omega
 have e5 : bts (ByteArray.mk #[10]) = [10] := rfl
 have e6 : bts (ByteArray.mk #[61, 32]) = [61, 32] := rfl
 have e7 : bts (ByteArray.mk #[121]) = [121] := rfl
 have e8 : bts (ByteArray.mk #[110]) = [110] := rfl
 have hok : okR b (wnt [10] b r) := wnt_ok hr
 rw [h] at hok
 have ha : a ≤ b.length := hok
 have ha1 : 1 ≤ a := by
  cases r with
  |inl f => cases h
  |inr c =>
   have h : wantS [10] b c = .inr a := h
   have := (wantS_ok h).1
   simp at this
   omega
 unfold l_q16 gl_q16
 rw [lwant_eq hsh _ (by decide) hr, e5]
 try dsimp only
 rw [show bindR r (wantS [10] b) = wnt [10] b r from rfl, h]
 show bi ((0 : Int) != 0) _ _ = _
 rw [br_ne' rfl]
 have hA : 0 ≤ (IntKind.i64.wrap ((a : Int) - 1)) ∧ (IntKind.i64.wrap ((a : Int) - 1)) ≤ ((b.length : Nat) : Int) := by
  rw [wr ((a : Int) - 1) (by omega) (by omega)]
  omega
 rw [show stA (.inr a) = (a : Int) from rfl, show stE (.inr a) = 0 from rfl]
 simp only [br_pos hA, br_pos (show 0 < [10, 61].length by decide), both_same, twice_eq, thrice_eq]
 rw [wr ((a : Int) - 1) (by omega) (by omega), show ((a : Int) - 1).toNat = a - 1 by omega, List.take_of_length_le (by rw [List.length_drop]; exact Nat.le_refl _)]
 unfold l_qt l_bytesIndex
 rw [br_pos (by
  refine ⟨by rw [List.length_drop]; omega, ⟨by rw [List.length_drop]; omega, rfl⟩, fun x hx => hb x (List.mem_of_mem_drop hx), by decide⟩)]
 show bi (decide (hypEnd b a < 0)) _ _ = _
 by_cases h1 : hypEnd b a < 0
 ·rw [br_pos h1, if_pos (.inl h1)]
  unfold hypM
  rw [if_pos h1]
  rfl
 ·have hroom := hypEnd_room ⟨ha1, ha⟩ h1
  rw [br_neg h1]
  show bi (decide (0 ≤ (a : Int) ∧ (a : Int) ≤ (IntKind.i64.wrap (hypEnd b a + (a : Int))) ∧ (IntKind.i64.wrap (hypEnd b a + (a : Int))) ≤ ((b.length : Nat) : Int))) (l_q15 ((b.drop (a : Int).toNat).take ((IntKind.i64.wrap (hypEnd b a + (a : Int))).toNat - (a : Int).toNat)) _) none = _
  rw [wr (hypEnd b a + (a : Int)) (by omega) (by omega), br_pos (by omega), Int.toNat_natCast, show (hypEnd b a + (a : Int)).toNat - a = (hypEnd b a).toNat by omega, import_eq]
  have hp := impS_pl ((b.drop a).take (hypEnd b a).toNat)
  rw [List.length_take, List.length_drop] at hp
  try dsimp only
  rw [show impS ((b.drop a).take (hypEnd b a).toNat) = hypImp b a from rfl] at hp ⊢
  by_cases h2 : (hypImp b a).e ≠ 0
  ·rw [br_ne h2, if_pos (.inr h2)]
   unfold hypM
   rw [if_neg h1, if_pos h2]
   rfl
  ·rw [br_ne' (Decidable.not_not.1 h2), if_neg (fun q => q.elim h1 h2)]
   have eM : hypM b a = .inr (a + (hypImp b a).p.toNat) := by
    unfold hypM
    rw [if_neg h1, if_neg h2]
   have hM := hypM_ok ⟨ha1, ha⟩
   have eA : IntKind.i64.wrap ((a : Int) + (hypImp b a).p) = stA (hypM b a) := by
    rw [eM, wr _ (by omega) (by omega)]
    show _ = ((a + (hypImp b a).p.toNat : Nat) : Int)
    omega
   have eE : (0 : Int) = stE (hypM b a) := by rw [eM]; rfl
   rw [eA]
   show l_q1 (ByteArray.mk #[61, 32]) b (stA (hypM b a)) 0 _ = _
   have main : ∀ (z : Int), z = stE (hypM b a) -> l_q1 (ByteArray.mk #[61, 32]) b (stA (hypM b a)) z (fun r13 r14 r15 =>
     l_q4 (ByteArray.mk #[121]) r13 r14 r15
      (fun r16 r17 r18 r19 =>
      bi r16
       (l_q1 (ByteArray.mk #[10]) r17 r18 r19
       (fun r20 r21 r22 =>
        K0 2 (hypImp b a).k (hypImp b a).K (hypImp b a).O (hypImp b a).N 2 r20 r21 r22 ([] : List Int) (hypImp b a).nx (hypImp b a).ou ([] : List Int) ([] : List Int)))
       (l_q1 (ByteArray.mk #[110]) r17 r18 r19
       (fun r23 r24 r25 =>
        l_q9 true r23 r24 r25
        (fun r26 r27 r28 r29 =>
         l_q1 (ByteArray.mk #[10]) r26 r27 r28
         (fun r30 r31 r32 =>
          K0 2 (hypImp b a).k (hypImp b a).K (hypImp b a).O (hypImp b a).N 3 r30 r31 r32 ([] : List Int) (hypImp b a).nx (hypImp b a).ou ([] : List Int) r29)))))) =
     K0 2 (hypImp b a).k (hypImp b a).K (hypImp b a).O (hypImp b a).N (if hypY b a = true then 2 else 3) b (stA (hypZ b a)) (stE (hypZ b a)) [] (hypImp b a).nx (hypImp b a).ou [] (if hypY b a = true then [] else roV (hypN b a)) := by
    rintro z rfl
    have k1 : okR b (wnt [61, 32] b (hypM b a)) := wnt_ok hM
    have k2 : okR b (isR [121] b (wnt [61, 32] b (hypM b a))) := is_ok k1
    rw [lwant_eq hsh _ (by decide) hM, e6]
    try dsimp only
    rw [show bindR (hypM b a) (wantS [61, 32] b) = wnt [61, 32] b (hypM b a) from rfl, lis_eq hsh hb _ (by decide) k1, e7]
    try dsimp only
    rw [show isS [121] b (wnt [61, 32] b (hypM b a)) = hypY b a from rfl]
    unfold hypZ
    by_cases hy : hypY b a = true
    ·rw [hy, br_tt, if_pos rfl, if_pos rfl, if_pos rfl, lwant_eq hsh _ (by decide) k2, e5]
     rfl
    ·rw [Bool.not_eq_true] at hy
     rw [hy, br_ff, if_neg (by decide), if_neg (by decide), if_neg (by decide), lwant_eq hsh _ (by decide) k2, e8]
     try dsimp only
     have k3 : okR b (wnt [110] b (isR [121] b (wnt [61, 32] b (hypM b a)))) := wnt_ok k2
     rw [show bindR (isR [121] b (wnt [61, 32] b (hypM b a))) (wantS [110] b) = wnt [110] b (isR [121] b (wnt [61, 32] b (hypM b a))) from rfl, lrow_eq (by omega) true k3]
     try dsimp only
     have k4 : okR b (roR (hypN b a)) := row_ok k3
     rw [show rowR true b (wnt [110] b (isR [121] b (wnt [61, 32] b (hypM b a)))) = hypN b a from rfl, lwant_eq hsh _ (by decide) k4, e5]
     rfl
   exact main 0 eE

abbrev KT0_q17 (R : Type) := Int -> Int -> Int -> Int -> Int -> (List Ent) -> Option R
abbrev LT_q17 := {R : Type} -> (List Int) -> (KT0_q17 R) -> Option R
abbrev GT_q17_10 (R : Type) := (List Int) -> Int -> Int -> Int -> (List Ent) -> (List Int) -> Int -> Int -> Option R
abbrev gs_q17_10 (l_q7 : LT_q7) (l_q0 : LT_q0) (l_qm : LT_qm) (l_qs : LT_qs) (l_qb : LT_qb) (l_qa : LT_qa) (l_q16 : LT_q16) (l_q4 : LT_q4) {R : Type} (g18_10 : GT_q17_10 R) (K0 : KT0_q17 R) (b : List Int) (o0 o0_1 o0_2 : Int) (o1 : List Ent) (o2 : List Int) (o2_1 o2_2 : Int) : Option R :=
 bi (o2_2 == 0) (bi (decide (o2_1 < (b.length : Int))) (l_q4 (ByteArray.mk #[63]) o2 o2_1 o2_2 (fun r31 r32 r33 r34 => bi r31 (l_qa o0 o0_1 o0_2 r32 r33 r34 (fun r35 r36 r37 r38 r39 r40 r41 r42 r43 r44 r45 r46 r47 r48 => bi (r43 != 0) (bi (r43 != 0) (both (thrice
 (K0 0 0 0 r43 r42 ([] : List Ent))) (both (twice (K0 0 0 0 r43 r42 ([] : List Ent))) (both (twice
 (K0 0 0 0 r43 r42 ([] : List Ent))) (K0 0 0 0 r43 r42 ([] : List Ent))))) (K0 o0 o0_1 o0_2 0 (b.length : Int) o1)) (l_qb r35 r36 r37 r38 r39 r40 (fun r49 r50 r51 r52 r53 r54 =>
 l_qm r35 r44 r36 r37 r38 r39 r45 r46 r40 r47 r48 o0 o0_1 o0_2 (fun r55 => bi (r55 != 0) (bi (decide ((o1.length + [((r35, (r44, (r36, (r37, (r38, (r39, (r45, r46))))))), (r40, (r47, r48)))].length) * 168 ≤ lim)) (g18_10 b o0 o0_1 o0_2 (o1 ++ [((r35, (r44, (r36, (r37, (r38, (r39, (r45, r46))))))), (r40, (r47, r48)))]) r41 o2_1 r55) none)
 (bi (decide ((o1.length + [((r35, (r44, (r36, (r37, (r38, (r39, (r45, r46))))))), (r40, (r47, r48)))].length) * 168 ≤ lim)) (g18_10 b o0 o0_1 o0_2 (o1 ++ [((r35, (r44, (r36, (r37, (r38, (r39, (r45, r46))))))), (r40, (r47, r48)))]) r41 r42 r55) none))) (fun r56 r57 r58 r59 r60 r61 => l_qs r35 r44 r36 r37 r38 r39 r45 r46 r40 r47 r48 o0 o0_1 o0_2 (fun r62 => bi (r62 != 0)
 (bi (decide ((o1.length + [((r35, (r44, (r36, (r37, (r38, (r39, (r45, r46))))))), (r40, (r47, r48)))].length) * 168 ≤ lim)) (g18_10 b o0 o0_1 o0_2 (o1 ++ [((r35, (r44, (r36, (r37, (r38, (r39, (r45, r46))))))), (r40, (r47, r48)))]) r41 o2_1 r62) none) (bi (decide ((o1.length + [((r35, (r44, (r36, (r37, (r38, (r39, (r45, r46))))))), (r40, (r47, r48)))].length) * 168 ≤ lim))
 (g18_10 b o0 o0_1 o0_2 (o1 ++ [((r35, (r44, (r36, (r37, (r38, (r39, (r45, r46))))))), (r40, (r47, r48)))]) r41 r42 r62) none))) (l_qs r35 r44 r36 r37 r38 r39 r45 r46 r40 r47 r48 o0 o0_1 o0_2 (fun r63 => bi (r63 != 0) (bi (decide ((o1.length + [((r35, (r44, (r36, (r37, (r38, (r39, (r45, r46))))))), (r40, (r47, r48)))].length) * 168 ≤ lim))
 (g18_10 b o0 o0_1 o0_2 (o1 ++ [((r35, (r44, (r36, (r37, (r38, (r39, (r45, r46))))))), (r40, (r47, r48)))]) r41 o2_1 r63) none) (bi (decide ((o1.length + [((r35, (r44, (r36, (r37, (r38, (r39, (r45, r46))))))), (r40, (r47, r48)))].length) * 168 ≤ lim)) (g18_10 b o0 o0_1 o0_2 (o1 ++ [((r35, (r44, (r36, (r37, (r38, (r39, (r45, r46))))))), (r40, (r47, r48)))]) r41 r42 r63) none))))))
 (l_q4 (ByteArray.mk #[33]) r32 r33 r34 (fun r64 r65 r66 r67 => bi r64 (l_q16 r65 r66 r67 (fun r68 r69 r70 r71 r72 r73 r74 r75 r76 r77 r78 r79 r80 r81 => bi (r76 != 0) (bi (r76 != 0) (both (thrice (K0 0 0 0 r76 r75 ([] : List Ent))) (both (twice
 (K0 0 0 0 r76 r75 ([] : List Ent))) (both (twice (K0 0 0 0 r76 r75 ([] : List Ent)))
 (K0 0 0 0 r76 r75 ([] : List Ent))))) (K0 o0 o0_1 o0_2 0 (b.length : Int) o1)) (l_qb r68 r69 r70 r71 r72 r73 (fun r82 r83 r84 r85 r86 r87 => l_qm r68 r77 r69 r70 r71 r72 r78 r79 r73 r80 r81 o0 o0_1 o0_2 (fun r88 => bi (r88 != 0)
 (bi (decide ((o1.length + [((r68, (r77, (r69, (r70, (r71, (r72, (r78, r79))))))), (r73, (r80, r81)))].length) * 168 ≤ lim)) (g18_10 b o0 o0_1 o0_2 (o1 ++ [((r68, (r77, (r69, (r70, (r71, (r72, (r78, r79))))))), (r73, (r80, r81)))]) r74 o2_1 r88) none) (bi (decide ((o1.length + [((r68, (r77, (r69, (r70, (r71, (r72, (r78, r79))))))), (r73, (r80, r81)))].length) * 168 ≤ lim))
 (g18_10 b o0 o0_1 o0_2 (o1 ++ [((r68, (r77, (r69, (r70, (r71, (r72, (r78, r79))))))), (r73, (r80, r81)))]) r74 r75 r88) none))) (fun r89 r90 r91 r92 r93 r94 => l_qs r68 r77 r69 r70 r71 r72 r78 r79 r73 r80 r81 o0 o0_1 o0_2 (fun r95 => bi (r95 != 0) (bi (decide ((o1.length + [((r68, (r77, (r69, (r70, (r71, (r72, (r78, r79))))))), (r73, (r80, r81)))].length) * 168 ≤ lim))
 (g18_10 b o0 o0_1 o0_2 (o1 ++ [((r68, (r77, (r69, (r70, (r71, (r72, (r78, r79))))))), (r73, (r80, r81)))]) r74 o2_1 r95) none) (bi (decide ((o1.length + [((r68, (r77, (r69, (r70, (r71, (r72, (r78, r79))))))), (r73, (r80, r81)))].length) * 168 ≤ lim)) (g18_10 b o0 o0_1 o0_2 (o1 ++ [((r68, (r77, (r69, (r70, (r71, (r72, (r78, r79))))))), (r73, (r80, r81)))]) r74 r75 r95) none)))
 (l_qs r68 r77 r69 r70 r71 r72 r78 r79 r73 r80 r81 o0 o0_1 o0_2 (fun r96 => bi (r96 != 0) (bi (decide ((o1.length + [((r68, (r77, (r69, (r70, (r71, (r72, (r78, r79))))))), (r73, (r80, r81)))].length) * 168 ≤ lim)) (g18_10 b o0 o0_1 o0_2 (o1 ++ [((r68, (r77, (r69, (r70, (r71, (r72, (r78, r79))))))), (r73, (r80, r81)))]) r74 o2_1 r96) none)
 (bi (decide ((o1.length + [((r68, (r77, (r69, (r70, (r71, (r72, (r78, r79))))))), (r73, (r80, r81)))].length) * 168 ≤ lim)) (g18_10 b o0 o0_1 o0_2 (o1 ++ [((r68, (r77, (r69, (r70, (r71, (r72, (r78, r79))))))), (r73, (r80, r81)))]) r74 r75 r96) none)))))) (both (thrice
 (K0 0 0 0 6 r66 ([] : List Ent))) (both (twice (K0 0 0 0 6 r66 ([] : List Ent))) (both (twice
 (K0 0 0 0 6 r66 ([] : List Ent))) (K0 0 0 0 6 r66 ([] : List Ent))))))))) (bi (o2_2 != 0) (both (thrice
 (K0 0 0 0 o2_2 o2_1 ([] : List Ent))) (both (twice (K0 0 0 0 o2_2 o2_1 ([] : List Ent))) (both (twice
 (K0 0 0 0 o2_2 o2_1 ([] : List Ent))) (K0 0 0 0 o2_2 o2_1 ([] : List Ent))))) (K0 o0 o0_1 o0_2 0 (b.length : Int) o1))) (bi (o2_2 != 0) (both (thrice
 (K0 0 0 0 o2_2 o2_1 ([] : List Ent))) (both (twice (K0 0 0 0 o2_2 o2_1 ([] : List Ent))) (both (twice
 (K0 0 0 0 o2_2 o2_1 ([] : List Ent))) (K0 0 0 0 o2_2 o2_1 ([] : List Ent))))) (K0 o0 o0_1 o0_2 0 (b.length : Int) o1))

def s_q17_10 {R : Type} := @gs_q17_10 @l_q7 @l_q0 @l_qm @l_qs @l_qb @l_qa @l_q16 @l_q4 R

abbrev ge_q17 (l_q7 : LT_q7) (l_q0 : LT_q0) (l_qm : LT_qm) (l_qs : LT_qs) (l_qb : LT_qb) (l_qa : LT_qa) (l_q16 : LT_q16) (l_q4 : LT_q4) {R : Type} (g18_10 : GT_q17_10 R) (K0 : KT0_q17 R) (b : List Int) : Option R :=
 bi (decide ((b.length : Int) > 16777216)) (K0 0 0 0 2 0 ([] : List Ent)) (bi (decide (0 < [10, 63].length)) (l_q0 b [10, 63] (fun r1 => bi (decide (0 < [10, 33].length)) (l_q0 b [10, 33] (fun r2 => bi (decide ((b.length : Int) > 0))
 (bi (decide (0 ≤ (0 : Int) ∧ (0 : Int) < ((b.length : Nat) : Int))) (bi ((b.getD 0 0) == 63) (bi (decide ((IntKind.i64.wrap ((IntKind.i64.wrap (r1 + r2)) + 1)) > 65536)) (K0 0 0 0 3 0 ([] : List Ent)) (l_q7 b 0 0 (fun r3 r4 r5 r6 r7 r8 r9 => g18_10 b r3 r4 r5 r9 r6 r7 r8)))
 (bi (decide (0 ≤ (0 : Int) ∧ (0 : Int) < ((b.length : Nat) : Int))) (bi ((b.getD 0 0) == 33) (bi (decide ((IntKind.i64.wrap ((IntKind.i64.wrap (r1 + r2)) + 1)) > 65536)) (K0 0 0 0 3 0 ([] : List Ent)) (l_q7 b 0 0 (fun r10 r11 r12 r13 r14 r15 r16 =>
 g18_10 b r10 r11 r12 r16 r13 r14 r15))) (bi (decide ((IntKind.i64.wrap (r1 + r2)) > 65536)) (K0 0 0 0 3 0 ([] : List Ent)) (l_q7 b 0 0 (fun r17 r18 r19 r20 r21 r22 r23 => g18_10 b r17 r18 r19 r23 r20 r21 r22)))) none)) none) (bi (decide ((IntKind.i64.wrap (r1 + r2)) > 65536))
 (K0 0 0 0 3 0 ([] : List Ent)) (l_q7 b 0 0 (fun r24 r25 r26 r27 r28 r29 r30 => g18_10 b r24 r25 r26 r30 r27 r28 r29))))) none)) none)

def e_q17 {R : Type} := @ge_q17 @l_q7 @l_q0 @l_qm @l_qs @l_qb @l_qa @l_q16 @l_q4 R

def run_q17 {R : Type} (K0 : KT0_q17 R) : Nat -> GT_q17_10 R
 |0 => fun _ _ _ _ _ _ _ _ => none
 |n + 1 => s_q17_10 (run_q17 K0 n) K0

def l_q17 {R : Type} (b : List Int) (K0 : KT0_q17 R) : Option R := evl fun fuel => e_q17 (run_q17 K0 fuel) K0 b

theorem lparse_bad {R : Type} {b : List Int} {k K O e p : Int} {acc : List Ent} (he : e ≠ 0) (K0 : Int -> Int -> Int -> Int -> Int -> List Ent -> Option R) (m : Nat) : run_q17 K0 (m + 1) b k K O acc b p e = K0 0 0 0 e p [] := by
 rw [show run_q17 K0 (m + 1) = s_q17_10 (run_q17 K0 m) K0 from rfl]
 unfold s_q17_10 gs_q17_10
 rw [br_eq' he, br_ne he]
 simp only [both_same, twice_eq, thrice_eq]

theorem memE_far {b : List Int} {r : Rd Nat} {a c : Nat} (h : memE b r = .inr c) (hr : okR b r) : c ≤ b.length := by
 have := memE_ok hr
 rw [h] at this
 exact this

theorem lparse_go {R : Type} {b : List Int} (hs : b.length ≤ 16777216) (hb : isB8 b) (k K O : Int) (K0 : Int -> Int -> Int -> Int -> Int -> List Ent -> Option R) :
  ∀ (n a : Nat) (acc : List Ent), b.length + 1 ≤ n + a -> a ≤ b.length -> acc.length ≤ a -> Reach (fun m => run_q17 K0 m b k K O acc b (a : Int) 0) (outP k K O b K0 (parsS k K O b n a acc))
 |0, a, acc, hn, ha, hl => by omega
 |n + 1, a, acc, hn, ha, hl => by
  have hsh : short b := by unfold short; omega
  have is1 : ∀ KK : Bool -> List Int -> Int -> Int -> Option R, l_q4 (ByteArray.mk #[63]) b (a : Int) 0 KK = KK (isS [63] b (.inr a)) b (stA (isR [63] b (.inr a))) (stE (isR [63] b (.inr a))) := fun KK => lis_eq hsh hb _ (by decide) (r := .inr a) ha KK
  have ok1 : okR b (isR [63] b (.inr a)) := is_ok (r := .inr a) ha
  have is2 : ∀ KK : Bool -> List Int -> Int -> Int -> Option R, l_q4 (ByteArray.mk #[33]) b (stA (isR [63] b (.inr a))) (stE (isR [63] b (.inr a))) KK = KK (isS [33] b (isR [63] b (.inr a))) b (stA (isR [33] b (isR [63] b (.inr a)))) (stE (isR [33] b (isR [63] b (.inr a)))) := fun KK => lis_eq hsh hb _ (by decide) ok1 KK
  have ok2 : okR b (isR [33] b (isR [63] b (.inr a))) := is_ok ok1
  have lim1 : ∀ x : Ent, (acc.length + [x].length) * 168 ≤ lim := fun x => by
   simp only [List.length_cons, List.length_nil, lim]
   omega
  unfold parsS
  by_cases hab : a < b.length
  ·rw [if_pos hab]
   by_cases h63 : isS [63] b (.inr a) = true
   ·rw [if_pos h63]
    have hw : (roV (memW b (isR [63] b (.inr a)))).length ≤ b.length := row_len ok1
    have ho : (roV (memO b (isR [63] b (.inr a)))).length ≤ b.length := row_len (wnt_ok (row_ok ok1))
    have hok := memE_ok ok1
    have start : ∀ m, run_q17 K0 (m + 1) b k K O acc b (a : Int) 0 = s_q17_10 (run_q17 K0 m) K0 b k K O acc b (a : Int) 0 := fun m => rfl
    cases hE : memE b (isR [63] b (.inr a)) with
    |inl f =>
     rw [hE] at hok
     have hf : f.1 ≠ 0 := hok
     refine .now fun m => ?_
     rw [start]
     unfold s_q17_10 gs_q17_10
     rw [br_eq rfl, br_pos (by omega), is1]
     try dsimp only
     rw [h63, br_tt, lmember_eq (by omega) ok1, hE]
     show bi (f.1 != 0) _ _ = _
     rw [br_ne hf]
     show bi (f.1 != 0) _ _ = _
     rw [br_ne hf]
     simp only [both_same, twice_eq, thrice_eq]
     rfl
    |inr c =>
     rw [hE] at hok
     have hcb : c ≤ b.length := hok
     obtain ⟨a0, e0, hc⟩ := memE_gt hE
     have ha0 : a ≤ a0 := by
      have e0 : (if (b.drop a).take [(63 : Int)].length = [63] then (.inr (a + [(63 : Int)].length) : Rd Nat) else .inr a) = .inr a0 := e0
      split at e0
      ·have := Sum.inr.inj e0
       omega
      ·have := Sum.inr.inj e0
       omega
     try dsimp only
     by_cases hF : askF k K O (roV (memW b (isR [63] b (.inr a)))) 1 (roV (memO b (isR [63] b (.inr a)))) [] = 0
     ·rw [if_neg (by simpa using hF)]
      refine .step (fun m => ?_) (lparse_go hs hb k K O K0 n c _ (by omega) hcb (by rw [List.length_append, List.length_singleton]; omega))
      rw [start]
      unfold s_q17_10 gs_q17_10
      rw [br_eq rfl, br_pos (by omega), is1]
      try dsimp only
      rw [h63, br_tt, lmember_eq (by omega) ok1, hE]
      show bi ((0 : Int) != 0) _ _ = _
      rw [br_ne' rfl]
      unfold l_qb
      rw [br_eq rfl]
      try dsimp only
      rw [askF_eq (by omega) (by simp)]
      try dsimp only
      rw [br_ne' hF, br_pos (lim1 _), hF]
      rfl
     ·rw [if_pos hF]
      refine .step (G := fun m => run_q17 K0 m b k K O (acc ++ [((1, (roV (memW b (isR [63] b (.inr a))), (k, (K, (O, (0, ([], []))))))), (1, (roV (memO b (isR [63] b (.inr a))), [])))]) b (a : Int) (askF k K O (roV (memW b (isR [63] b (.inr a)))) 1 (roV (memO b (isR [63] b (.inr a)))) [])) (fun m => ?_) (.now fun m => lparse_bad hF K0 m)
      rw [start]
      unfold s_q17_10 gs_q17_10
      rw [br_eq rfl, br_pos (by omega), is1]
      try dsimp only
      rw [h63, br_tt, lmember_eq (by omega) ok1, hE]
      show bi ((0 : Int) != 0) _ _ = _
      rw [br_ne' rfl]
      unfold l_qb
      rw [br_eq rfl]
      try dsimp only
      rw [askF_eq (by omega) (by simp)]
      try dsimp only
      rw [br_ne hF, br_pos (lim1 _)]
   ·rw [if_neg h63]
    have start : ∀ m, run_q17 K0 (m + 1) b k K O acc b (a : Int) 0 = s_q17_10 (run_q17 K0 m) K0 b k K O acc b (a : Int) 0 := fun m => rfl
    have h63f : isS [63] b (.inr a) = false := by simpa using h63
    have er : isR [63] b (.inr a) = .inr a := isR_no h63
    by_cases h33 : isS [33] b (isR [63] b (.inr a)) = true
    ·rw [if_pos h33]
     cases hW : wnt [10] b (isR [33] b (isR [63] b (.inr a))) with
     |inl f =>
      have hok : okR b (wnt [10] b (isR [33] b (isR [63] b (.inr a)))) := wnt_ok ok2
      rw [hW] at hok
      have hf : f.1 ≠ 0 := hok
      refine .now fun m => ?_
      rw [start]
      unfold s_q17_10 gs_q17_10
      rw [br_eq rfl, br_pos (by omega), is1]
      try dsimp only
      rw [h63f, br_ff, is2]
      try dsimp only
      rw [h33, br_tt, lhypo_bad (by omega) ok2 hW]
      try dsimp only
      rw [br_ne hf, br_ne hf]
      simp only [both_same, twice_eq, thrice_eq]
      rfl
     |inr d =>
      have hok : okR b (wnt [10] b (isR [33] b (isR [63] b (.inr a)))) := wnt_ok ok2
      rw [hW] at hok
      have hdb : d ≤ b.length := hok
      obtain ⟨d0, hd0, ed⟩ := wnt_gt hW
      obtain ⟨d1, hd1, ed1⟩ := isR_gt hd0
      rw [er] at hd1
      have ed2 : a = d1 := Sum.inr.inj hd1
      simp only [List.length_cons, List.length_nil] at ed
      try dsimp only
      by_cases hbad : hypEnd b d < 0 ∨ (hypImp b d).e ≠ 0
      ·rw [if_pos hbad]
       have hf := hypM_bad hbad
       refine .now fun m => ?_
       rw [start]
       unfold s_q17_10 gs_q17_10
       rw [br_eq rfl, br_pos (by omega), is1]
       try dsimp only
       rw [h63f, br_ff, is2]
       try dsimp only
       rw [h33, br_tt, lhypo_eq hs hb ok2 hW, if_pos hbad]
       try dsimp only
       rw [br_ne hf, br_ne hf]
       simp only [both_same, twice_eq, thrice_eq]
       rfl
      ·rw [if_neg hbad]
       have hzok := hypZ_ok (b := b) (a := d) ⟨by omega, hdb⟩
       obtain ⟨s1, s2⟩ := hypImp_short b d
       have hlen : (if hypY b d = true then ([] : List Int) else roV (hypN b d)).length ≤ 17592186044000 := by
        split
        ·simp
        ·have : (roV (hypN b d)).length ≤ b.length := row_len (wnt_ok (is_ok (wnt_ok (hypM_ok ⟨by omega, hdb⟩))))
         omega
       cases hZ : hypZ b d with
       |inl f =>
        rw [hZ] at hzok
        have hf : f.1 ≠ 0 := hzok
        refine .now fun m => ?_
        rw [start]
        unfold s_q17_10 gs_q17_10
        rw [br_eq rfl, br_pos (by omega), is1]
        try dsimp only
        rw [h63f, br_ff, is2]
        try dsimp only
        rw [h33, br_tt, lhypo_eq hs hb ok2 hW, if_neg hbad, hZ]
        show bi (f.1 != 0) _ _ = _
        rw [br_ne hf]
        show bi (f.1 != 0) _ _ = _
        rw [br_ne hf]
        simp only [both_same, twice_eq, thrice_eq]
        rfl
       |inr c =>
        rw [hZ] at hzok
        have hcb : c ≤ b.length := hzok
        have hgt := hypZ_gt hZ
        try dsimp only
        by_cases hF : tstF k K O (hypImp b d).k (hypImp b d).K (hypImp b d).O (hypImp b d).N (hypImp b d).nx (hypImp b d).ou (if hypY b d = true then 2 else 3) [] (if hypY b d = true then [] else roV (hypN b d)) = 0
        ·rw [if_neg (by simpa using hF)]
         refine .step (fun m => ?_) (lparse_go hs hb k K O K0 n c _ (by omega) hcb (by rw [List.length_append, List.length_singleton]; omega))
         rw [start]
         unfold s_q17_10 gs_q17_10
         rw [br_eq rfl, br_pos (by omega), is1]
         try dsimp only
         rw [h63f, br_ff, is2]
         try dsimp only
         rw [h33, br_tt, lhypo_eq hs hb ok2 hW, if_neg hbad, hZ]
         show bi ((0 : Int) != 0) _ _ = _
         rw [br_ne' rfl]
         unfold l_qb
         rw [br_eq' (by decide), br_eq rfl]
         try dsimp only
         rw [tstF_eq s1 s2 (by simp) hlen]
         try dsimp only
         rw [br_ne' hF, br_pos (lim1 _), hF]
         rfl
        ·rw [if_pos hF]
         refine .step (G := fun m => run_q17 K0 m b k K O (acc ++ [((2, ([], ((hypImp b d).k, ((hypImp b d).K, ((hypImp b d).O, ((hypImp b d).N, ((hypImp b d).nx, (hypImp b d).ou))))))), ((if hypY b d = true then 2 else 3), ([], (if hypY b d = true then [] else roV (hypN b d)))))]) b (a : Int) (tstF k K O (hypImp b d).k (hypImp b d).K (hypImp b d).O (hypImp b d).N (hypImp b d).nx (hypImp b d).ou (if hypY b d = true then 2 else 3) [] (if hypY b d = true then [] else roV (hypN b d)))) (fun m => ?_) (.now fun m => lparse_bad hF K0 m)
         rw [start]
         unfold s_q17_10 gs_q17_10
         rw [br_eq rfl, br_pos (by omega), is1]
         try dsimp only
         rw [h63f, br_ff, is2]
         try dsimp only
         rw [h33, br_tt, lhypo_eq hs hb ok2 hW, if_neg hbad, hZ]
         show bi ((0 : Int) != 0) _ _ = _
         rw [br_ne' rfl]
         unfold l_qb
         rw [br_eq' (by decide), br_eq rfl]
         try dsimp only
         rw [tstF_eq s1 s2 (by simp) hlen]
         try dsimp only
         rw [br_ne hF, br_pos (lim1 _)]
    ·rw [if_neg h33]
     have h33f : isS [33] b (isR [63] b (.inr a)) = false := by simpa using h33
     refine .now fun m => ?_
     rw [start]
     unfold s_q17_10 gs_q17_10
     rw [br_eq rfl, br_pos (by omega), is1]
     try dsimp only
     rw [h63f, br_ff, is2]
     try dsimp only
     rw [h33f, br_ff, isR_no h33, er]
     simp only [both_same, twice_eq, thrice_eq]
     rfl
  ·rw [if_neg hab]
   refine .now fun m => ?_
   rw [show run_q17 K0 (m + 1) = s_q17_10 (run_q17 K0 m) K0 from rfl]
   unfold s_q17_10 gs_q17_10
   rw [br_eq rfl, br_neg (by omega), br_ne' rfl]
   rfl

theorem lparse_eq {R : Type} {b : List Int} (hb : isB8 b) (K0 : Int -> Int -> Int -> Int -> Int -> List Ent -> Option R) : l_q17 b K0 = parseP b K0 := by
 unfold l_q17 parseP
 by_cases hs : (b.length : Int) > 16777216
 ·rw [if_pos hs]
  refine evl_eq (.now fun m => ?_)
  unfold e_q17 ge_q17
  rw [br_pos hs]
 rw [if_neg hs]
 have hs' : b.length ≤ 16777216 := by omega
 have c1 : srchOk b [10, 63] := ⟨⟨by omega, rfl⟩, hb, by decide⟩
 have c2 : srchOk b [10, 33] := ⟨⟨by omega, rfl⟩, hb, by decide⟩
 have fst : ∀ KK : Int -> Int -> Int -> List Int -> Int -> Int -> List Ent -> Option R, l_q7 b 0 0 KK = KK (firstL b (.inr 0)).1 (firstL b (.inr 0)).2.1 (firstL b (.inr 0)).2.2.1 b (stA (firstL b (.inr 0)).2.2.2) (stE (firstL b (.inr 0)).2.2.2) [] := fun KK => lfirst_eq (by omega) hb (r := .inr 0) (Nat.zero_le _) KK
 have body : ∀ m, e_q17 (run_q17 K0 m) K0 b = if nentS b > 65536 then K0 0 0 0 3 0 [] else run_q17 K0 m b (firstL b (.inr 0)).1 (firstL b (.inr 0)).2.1 (firstL b (.inr 0)).2.2.1 [] b (stA (firstL b (.inr 0)).2.2.2) (stE (firstL b (.inr 0)).2.2.2) := by
  intro m
  unfold e_q17 ge_q17 l_q0 l_bytesCount nentS
  rw [br_neg hs, br_pos (by decide), br_pos c1]
  try dsimp only
  rw [br_pos (by decide), br_pos c2]
  try dsimp only
  simp only [fst]
  by_cases h0 : (b.length : Int) > 0
  ·rw [br_pos h0, br_pos (by omega)]
   by_cases h63 : b.getD 0 0 = 63
   ·rw [br_eq h63, if_pos (⟨h0, .inl h63⟩ : (b.length : Int) > 0 ∧ (b.getD 0 0 = 63 ∨ b.getD 0 0 = 33)), br_if]
    simp only [decide_eq_true_eq]
   ·rw [br_eq' h63, br_pos (by omega)]
    by_cases h33 : b.getD 0 0 = 33
    ·rw [br_eq h33, if_pos (⟨h0, .inr h33⟩ : (b.length : Int) > 0 ∧ (b.getD 0 0 = 63 ∨ b.getD 0 0 = 33)), br_if]
     simp only [decide_eq_true_eq]
    ·rw [br_eq' h33, if_neg (show ¬ ((b.length : Int) > 0 ∧ (b.getD 0 0 = 63 ∨ b.getD 0 0 = 33)) from fun q => q.2.elim h63 h33), br_if]
     simp only [decide_eq_true_eq]
  ·rw [br_neg h0, if_neg (show ¬ ((b.length : Int) > 0 ∧ (b.getD 0 0 = 63 ∨ b.getD 0 0 = 33)) from fun q => h0 q.1), br_if]
   simp only [decide_eq_true_eq]
 by_cases hn : nentS b > 65536
 ·rw [if_pos hn]
  refine evl_eq (.now fun m => ?_)
  rw [body, if_pos hn]
 rw [if_neg hn]
 have hok := firstL_ok (b := b) (r := .inr 0) (Nat.zero_le _)
 cases hr : (firstL b (.inr 0)).2.2.2 with
 |inl f =>
  rw [hr] at hok
  refine evl_eq (.now fun m => ?_)
  rw [body, if_neg hn, hr]
  exact lparse_bad hok K0 m
 |inr a =>
  rw [hr] at hok
  have ha : a ≤ b.length := hok
  refine evl_eq (.same (fun m => ?_) (lparse_go hs' hb _ _ _ K0 (b.length + 1) a [] (by omega) ha (by simp)))
  rw [body, if_neg hn, hr]
  rfl

abbrev LT_q18 := {R : Type} -> Int -> Int -> Int -> (List Ent) -> (Int -> Option R) -> Option R
def l_q18 {R : Type} (l l_1 l_2 : Int) (l_3 : List Ent) (K0 : Int -> Option R) : Option R :=
 bi (l != 1) (bi (l != 2) (K0 30) (bi (decide (l_1 < 1)) (K0 1) (bi (decide (l_1 > 64)) (K0 1) (bi (l == 1) (bi (l_2 != 2) (K0 33) (bi (decide (l_2 < 1)) (K0 33) (bi (decide (l_2 > 64)) (K0 33) (bi (decide ((l_3.length : Int) > 65536)) (K0 3) (K0 0))))) (bi (decide (l_2 < 1)) (K0 33) (bi (decide (l_2 > 64)) (K0 33) (bi (decide ((l_3.length : Int) > 65536)) (K0 3) (K0 0))))))))
 (bi (decide (l_1 < 1)) (K0 1) (bi (decide (l_1 > 64)) (K0 1) (bi (l == 1) (bi (l_2 != 2) (K0 33) (bi (decide (l_2 < 1)) (K0 33) (bi (decide (l_2 > 64)) (K0 33) (bi (decide ((l_3.length : Int) > 65536)) (K0 3) (K0 0))))) (bi (decide (l_2 < 1)) (K0 33) (bi (decide (l_2 > 64)) (K0 33) (bi (decide ((l_3.length : Int) > 65536)) (K0 3) (K0 0)))))))

theorem lhead_eq {R : Type} {k K O : Int} {l : List Ent} (K0 : Int -> Option R) : l_q18 k K O l K0 = K0 (lheadS k K O l.length) := by
 unfold l_q18 lheadS
 have tail : (bi (decide (K < 1)) (K0 1) (bi (decide (K > 64)) (K0 1) (bi (k == 1) (bi (O != 2) (K0 33) (bi (decide (O < 1)) (K0 33) (bi (decide (O > 64)) (K0 33) (bi (decide ((l.length : Int) > 65536)) (K0 3) (K0 0)))))
   (bi (decide (O < 1)) (K0 33) (bi (decide (O > 64)) (K0 33) (bi (decide ((l.length : Int) > 65536)) (K0 3) (K0 0))))))) =
   K0 (if K < 1 ∨ K > 64 then 1 else if (k = 1 ∧ O ≠ 2) ∨ O < 1 ∨ O > 64 then 33 else if (l.length : Int) > 65536 then 3 else 0) := by
  by_cases c1 : K < 1
  ·rw [br_pos c1, if_pos (.inl c1)]
  rw [br_neg c1]
  by_cases c2 : K > 64
  ·rw [br_pos c2, if_pos (.inr c2)]
  rw [br_neg c2, if_neg (show ¬ (K < 1 ∨ K > 64) by omega)]
  by_cases c3 : k = 1
  ·rw [br_eq c3]
   by_cases c4 : O = 2
   ·rw [br_ne' c4, br_neg (by omega), br_neg (by omega), if_neg (by omega)]
    by_cases c5 : (l.length : Int) > 65536
    ·rw [br_pos c5, if_pos c5]
    ·rw [br_neg c5, if_neg c5]
   ·rw [br_ne c4, if_pos (.inl ⟨c3, c4⟩)]
  ·rw [br_eq' c3]
   by_cases c6 : O < 1
   ·rw [br_pos c6, if_pos (by omega)]
   rw [br_neg c6]
   by_cases c7 : O > 64
   ·rw [br_pos c7, if_pos (by omega)]
   rw [br_neg c7, if_neg (by omega)]
   by_cases c5 : (l.length : Int) > 65536
   ·rw [br_pos c5, if_pos c5]
   ·rw [br_neg c5, if_neg c5]
 by_cases a1 : k = 1
 ·rw [br_ne' a1, if_neg (show ¬ (k ≠ 1 ∧ k ≠ 2) by omega)]
  exact tail
 ·rw [br_ne a1]
  by_cases a2 : k = 2
  ·rw [br_ne' a2, if_neg (show ¬ (k ≠ 1 ∧ k ≠ 2) by omega)]
   exact tail
  ·rw [br_ne a2, if_pos ⟨a1, a2⟩]

abbrev KT0_q19 (R : Type) := Int -> (List Int) -> Int -> Int -> Int -> Int -> (List Int) -> (List Int) -> Int -> (List Int) -> (List Int) -> Option R
abbrev KT1_q19 (R : Type) := Int -> (List Int) -> Int -> Int -> Int -> Int -> (List Int) -> (List Int) -> Int -> (List Int) -> (List Int) -> Option R
abbrev LT_q19 := {R : Type} -> Int -> (List Int) -> Int -> Int -> Int -> Int -> (List Int) -> (List Int) -> Int -> (List Int) -> (List Int) -> (KT0_q19 R) -> (KT1_q19 R) -> (Option R) -> Option R
def l_q19 {R : Type} (e : Int) (e_1 : List Int) (e_2 e_3 e_4 e_5 : Int) (e_6 e_7 : List Int) (e_8 : Int) (e_9 e_10 : List Int) (K0 : KT0_q19 R) (K1 : KT1_q19 R) (K2 : Option R) : Option R :=
 bi (e == 1) (K0 e e_1 e_2 e_3 e_4 e_5 e_6 e_7 e_8 e_9 e_10) (bi (e == 2) (K1 e e_1 e_2 e_3 e_4 e_5 e_6 e_7 e_8 e_9 e_10) K2)

abbrev LT_q1a := {R : Type} -> Int -> Int -> Int -> (List Ent) -> (Int -> Int -> Option R) -> Option R
abbrev GT_q1a_5 (R : Type) := (List Ent) -> Int -> Int -> Int -> Int -> Int -> (List Ent) -> Option R
abbrev gs_q1a_5 (l_q18 : LT_q18) (l_qm : LT_qm) (l_qs : LT_qs) (l_q19 : LT_q19) {R : Type} (g12_5 : GT_q1a_5 R) (K0 : Int -> Int -> Option R) (x15 : List Ent) (x16 x17 o0 o0_1 o0_2 : Int) (o0_3 : List Ent) : Option R :=
 bi (decide (x17 < x16)) (bi (decide (0 ≤ x17 ∧ x17 < ((x15.length : Nat) : Int)))
 (l_q19 ((eat x15 x17).1.1) ((eat x15 x17).1.2.1) ((eat x15 x17).1.2.2.1) ((eat x15 x17).1.2.2.2.1) ((eat x15 x17).1.2.2.2.2.1) ((eat x15 x17).1.2.2.2.2.2.1) ((eat x15 x17).1.2.2.2.2.2.2.1) ((eat x15 x17).1.2.2.2.2.2.2.2) ((eat x15 x17).2.1) ((eat x15 x17).2.2.1) ((eat x15 x17).2.2.2)
 (fun r2 r3 r4 r5 r6 r7 r8 r9 r10 r11 r12 => l_qm r2 r3 r4 r5 r6 r7 r8 r9 r10 r11 r12 o0 o0_1 o0_2 (fun r13 => bi (r13 != 0) (K0 x17 r13) (g12_5 x15 x16 (IntKind.i64.wrap (x17 + 1)) o0 o0_1 o0_2 o0_3))) (fun r14 r15 r16 r17 r18 r19 r20 r21 r22 r23 r24 => l_qs r14 r15 r16 r17 r18 r19 r20 r21 r22 r23 r24 o0 o0_1 o0_2 (fun r25 => bi (r25 != 0) (K0 x17 r25)
 (g12_5 x15 x16 (IntKind.i64.wrap (x17 + 1)) o0 o0_1 o0_2 o0_3))) (K0 x17 30)) none) (K0 (o0_3.length : Int) 0)

def s_q1a_5 {R : Type} := @gs_q1a_5 @l_q18 @l_qm @l_qs @l_q19 R

abbrev ge_q1a (l_q18 : LT_q18) (l_qm : LT_qm) (l_qs : LT_qs) (l_q19 : LT_q19) {R : Type} (g12_5 : GT_q1a_5 R) (K0 : Int -> Int -> Option R) (l l_1 l_2 : Int) (l_3 : List Ent) : Option R :=
 l_q18 l l_1 l_2 l_3 (fun r1 => bi (r1 != 0) (K0 0 r1) (g12_5 l_3 (l_3.length : Int) 0 l l_1 l_2 l_3))

def e_q1a {R : Type} := @ge_q1a @l_q18 @l_qm @l_qs @l_q19 R

def run_q1a {R : Type} (K0 : Int -> Int -> Option R) : Nat -> GT_q1a_5 R
 |0 => fun _ _ _ _ _ _ _ => none
 |n + 1 => s_q1a_5 (run_q1a K0 n) K0

def l_q1a {R : Type} (l l_1 l_2 : Int) (l_3 : List Ent) (K0 : Int -> Int -> Option R) : Option R := evl fun fuel => e_q1a (run_q1a K0 fuel) K0 l l_1 l_2 l_3

theorem lcheck_go {R : Type} {k K O : Int} {l : List Ent} (hl : l.length ≤ 1000000) (hx : ∀ x ∈ l, okEnt x) (K0 : Int -> Int -> Option R) : ∀ (d i : Nat), i + d = l.length →
  Reach (fun m => run_q1a K0 m l (l.length : Int) (i : Int) k K O l) (K0 (chkF k K O (l.drop i) i).1 (chkF k K O (l.drop i) i).2) := by
 intro d
 induction d with
 |zero =>
  intro i hi
  refine .now fun m => ?_
  rw [show run_q1a K0 (m + 1) = s_q1a_5 (run_q1a K0 m) K0 from rfl]
  unfold s_q1a_5 gs_q1a_5 eat
  rw [br_neg (by omega), List.drop_of_length_le (by omega), show i = l.length by omega]
  rfl
 |succ d ih =>
  intro i hi
  have hil : i < l.length := by omega
  obtain ⟨⟨h1, h2⟩, h3, h4⟩ := hx _ (List.getElem_mem hil)
  have key : ∀ m, run_q1a K0 (m + 1) l (l.length : Int) (i : Int) k K O l = if entF k K O l[i] ≠ 0 then K0 (i : Int) (entF k K O l[i]) else run_q1a K0 m l (l.length : Int) ((i + 1 : Nat) : Int) k K O l := by
   intro m
   rw [show run_q1a K0 (m + 1) = s_q1a_5 (run_q1a K0 m) K0 from rfl]
   unfold s_q1a_5 gs_q1a_5 eat
   rw [br_pos (by omega), br_pos (by omega), Int.toNat_natCast, getD_of _ hil, wr _ (by omega) (by omega)]
   unfold l_q19 entF
   by_cases c1 : l[i].1.1 = 1
   ·rw [br_eq c1, if_pos c1]
    try dsimp only
    rw [askF_eq h1 h2]
    try dsimp only
    by_cases c : askF k K O l[i].1.2.1 l[i].2.1 l[i].2.2.1 l[i].2.2.2 = 0
    ·rw [br_ne' c, if_neg (by simpa using c)]
     rfl
    ·rw [br_ne c, if_pos c]
   ·rw [br_eq' c1, if_neg c1]
    by_cases c2 : l[i].1.1 = 2
    ·rw [br_eq c2, if_pos c2]
     try dsimp only
     rw [tstF_eq h3 h4 h1 h2]
     try dsimp only
     by_cases c : tstF k K O l[i].1.2.2.1 l[i].1.2.2.2.1 l[i].1.2.2.2.2.1 l[i].1.2.2.2.2.2.1 l[i].1.2.2.2.2.2.2.1 l[i].1.2.2.2.2.2.2.2 l[i].2.1 l[i].2.2.1 l[i].2.2.2 = 0
     ·rw [br_ne' c, if_neg (by simpa using c)]
      rfl
     ·rw [br_ne c, if_pos c]
    ·rw [br_eq' c2, if_neg c2, if_pos (by decide)]
  rw [List.drop_eq_getElem_cons hil]
  unfold chkF
  by_cases c : entF k K O l[i] ≠ 0
  ·rw [if_pos c]
   refine .now fun m => ?_
   rw [key, if_pos c]
  ·rw [if_neg c]
   refine .step (fun m => ?_) (ih (i + 1) (by omega))
   rw [key, if_neg c]

theorem lcheck_eq {R : Type} {k K O : Int} {l : List Ent} (hl : l.length ≤ 1000000) (hx : ∀ x ∈ l, okEnt x) (K0 : Int -> Int -> Option R) : l_q1a k K O l K0 = K0 (lcheckS k K O l).1 (lcheckS k K O l).2 := by
 unfold l_q1a lcheckS
 by_cases h : lheadS k K O l.length = 0
 ·rw [if_neg (by simpa using h)]
  refine evl_eq (.same (G := fun m => run_q1a K0 m l (l.length : Int) ((0 : Nat) : Int) k K O l) (fun m => ?_) ((lcheck_go hl hx K0 l.length 0 (by omega)).of_eq (by rw [List.drop_zero])))
  unfold e_q1a ge_q1a
  rw [lhead_eq, br_ne' h]
  rfl
 ·rw [if_pos h]
  refine evl_eq (.now fun m => ?_)
  unfold e_q1a ge_q1a
  rw [lhead_eq, br_ne h]

abbrev LT_q1b := {R : Type} -> Int -> Int -> ((List Int) -> Option R) -> Option R
/-- strconv.AppendInt -/
def l_q1b {R : Type} (i base : Int) (K0 : List Int -> Option R) : Option R := l_AppendInt i base K0

abbrev LT_q1c := {R : Type} -> Int -> ((List Int) -> Option R) -> Option R
abbrev gl_q1c (l_q1b : LT_q1b) {R : Type} (n : Int) (K0 : (List Int) -> Option R) : Option R :=
 l_q1b n 10 (fun r1 => K0 r1)

def l_q1c {R : Type} := @gl_q1c @l_q1b R

theorem put_eq {R : Type} {n : Int} (h : inI n) (K0 : List Int -> Option R) : l_q1c n K0 = K0 (itoaI n) := by
 unfold l_q1c gl_q1c l_q1b l_AppendInt
 unfold inI at h
 rw [br_pos ⟨rfl, h⟩]

abbrev LT_q1d := {R : Type} -> (List Int) -> (List Int) -> ((List Int) -> Option R) -> ((List Int) -> Option R) -> Option R
abbrev GT_q1d_2a (R : Type) := (List Int) -> Int -> Int -> (List Int) -> Option R
abbrev GT_q1d_2b (R : Type) := (List Int) -> Int -> Int -> (List Int) -> Option R
abbrev gs_q1d_2a (l_q1c : LT_q1c) {R : Type} (g36_2 : GT_q1d_2a R) (g36_2b : GT_q1d_2b R) (K0 : (List Int) -> Option R) (K1 : (List Int) -> Option R) (x7 : List Int) (x8 x9 : Int) (o0 : List Int) : Option R :=
 bi (decide (x9 < x8)) (bi (decide (0 ≤ x9 ∧ x9 < ((x7.length : Nat) : Int))) (bi (decide ((o0.length + [32].length) * 1 ≤ lim)) (l_q1c (x7.getD x9.toNat 0) (fun r1 => bi (decide (((o0 ++ [32]).length + r1.length) * 1 ≤ lim)) (g36_2b x7 x8 (IntKind.i64.wrap (x9 + 1)) ((o0 ++ [32]) ++ r1)) none)) none) none) (K0 o0)

def s_q1d_2a {R : Type} := @gs_q1d_2a @l_q1c R

abbrev gs_q1d_2b (l_q1c : LT_q1c) {R : Type} (g36_2 : GT_q1d_2a R) (g36_2b : GT_q1d_2b R) (K0 : (List Int) -> Option R) (K1 : (List Int) -> Option R) (x7 : List Int) (x8 x9 : Int) (o1 : List Int) : Option R :=
 bi (decide (x9 < x8)) (bi (decide (0 ≤ x9 ∧ x9 < ((x7.length : Nat) : Int))) (bi (decide ((o1.length + [32].length) * 1 ≤ lim)) (l_q1c (x7.getD x9.toNat 0) (fun r2 => bi (decide (((o1 ++ [32]).length + r2.length) * 1 ≤ lim)) (g36_2b x7 x8 (IntKind.i64.wrap (x9 + 1)) ((o1 ++ [32]) ++ r2)) none)) none) none) (K1 o1)

def s_q1d_2b {R : Type} := @gs_q1d_2b @l_q1c R

abbrev ge_q1d (l_q1c : LT_q1c) {R : Type} (g36_2 : GT_q1d_2a R) (g36_2b : GT_q1d_2b R) (K0 : (List Int) -> Option R) (K1 : (List Int) -> Option R) (l o0 : List Int) : Option R :=
 g36_2 l (l.length : Int) 0 o0

def e_q1d {R : Type} := @ge_q1d @l_q1c R

def run_q1d {R : Type} (K0 : (List Int) -> Option R) (K1 : (List Int) -> Option R) : Nat -> (GT_q1d_2a R) × (GT_q1d_2b R)
 |0 => (fun _ _ _ _ => none, fun _ _ _ _ => none)
 |n + 1 => (fun r => (s_q1d_2a r.1 r.2 K0 K1, s_q1d_2b r.1 r.2 K0 K1)) (run_q1d K0 K1 n)

def l_q1d {R : Type} (l o0 : List Int) (K0 : (List Int) -> Option R) (K1 : (List Int) -> Option R) : Option R := evl fun fuel => e_q1d (run_q1d K0 K1 fuel).1 (run_q1d K0 K1 fuel).2 K0 K1 l o0

theorem lnums_go {R : Type} {l : List Int} (hl : l.length ≤ 1000000) (hi : ∀ x ∈ l, inI x) (K0 K1 : List Int -> Option R) : ∀ (d i : Nat) (o : List Int), i + d = l.length -> o.length ≤ 1000000000 + 22 * i →
  Reach (fun m => (run_q1d K0 K1 m).2 l (l.length : Int) (i : Int) o) (K1 (o ++ lnumS (l.drop i))) := by
 intro d
 induction d with
 |zero =>
  intro i o hd ho
  refine .now fun m => ?_
  dsimp only [run_q1d]
  unfold s_q1d_2b gs_q1d_2b
  rw [br_neg (by omega), List.drop_of_length_le (by omega)]
  simp [lnumS]
 |succ d ih =>
  intro i o hd ho
  have h1 : i < l.length := by omega
  have hx := hi _ (List.getElem_mem h1)
  have hn := itoaI_len hx
  rw [List.drop_eq_getElem_cons h1, lnumS_cons]
  refine .step (fun m => ?_) ((ih (i + 1) ((o ++ [32]) ++ itoaI l[i]) (by omega) (by simp only [List.length_append, List.length_cons, List.length_nil]; omega)).of_eq (by simp))
  dsimp only [run_q1d]
  unfold s_q1d_2b gs_q1d_2b
  rw [br_pos (by omega), br_pos (by omega), br_pos (by simp only [List.length_cons, List.length_nil, lim]; omega), Int.toNat_natCast, getD_of 0 h1, put_eq hx]
  try dsimp only
  rw [br_pos (by simp only [List.length_append, List.length_cons, List.length_nil, lim]; omega), wr _ (by omega) (by omega)]
  rfl

theorem lnums_eq {R : Type} {l o : List Int} (hl : l.length ≤ 1000000) (hi : ∀ x ∈ l, inI x) (ho : o.length ≤ 1000000000) (K0 K1 : List Int -> Option R) : l_q1d l o K0 K1 = if l = [] then K0 o else K1 (o ++ lnumS l) := by
 unfold l_q1d
 cases l with
 |nil =>
  rw [if_pos rfl]
  refine evl_eq (.now fun m => ?_)
  unfold e_q1d ge_q1d
  dsimp only [run_q1d]
  unfold s_q1d_2a gs_q1d_2a
  rw [br_neg (by simp)]
 |cons x xs =>
  rw [if_neg (by simp)]
  have hx := hi x (List.mem_cons_self ..)
  have hn := itoaI_len hx
  refine evl_eq (.same (G := fun m => (run_q1d K0 K1 m).1 (x :: xs) ((x :: xs).length : Int) ((0 : Nat) : Int) o) (fun m => rfl) (.step (fun m => ?_) ((lnums_go hl hi K0 K1 xs.length 1 ((o ++ [32]) ++ itoaI x) (by rw [List.length_cons]; omega) (by simp only [List.length_append, List.length_cons, List.length_nil]; omega)).of_eq (by rw [lnumS_cons]; simp))))
  dsimp only [run_q1d]
  unfold s_q1d_2a gs_q1d_2a
  rw [br_pos (by rw [List.length_cons]; omega), br_pos (by rw [List.length_cons]; omega), br_pos (by simp only [List.length_cons, List.length_nil, lim]; omega), show ((x :: xs).getD ((0 : Nat) : Int).toNat 0) = x from rfl, put_eq hx]
  try dsimp only
  rw [br_pos (by simp only [List.length_append, List.length_cons, List.length_nil, lim]; omega)]
  rfl

abbrev LT_q1e := {R : Type} -> Int -> (List Int) -> Int -> Int -> Int -> Int -> (List Int) -> (List Int) -> Int -> (List Int) -> (List Int) -> ((List Int) -> Option R) -> ((List Int) -> Option R) -> Option R
abbrev gl_q1e (l_q1d : LT_q1d) {R : Type} (r : Int) (r_1 : List Int) (r_2 r_3 r_4 r_5 : Int) (r_6 r_7 : List Int) (r_8 : Int) (r_9 r_10 : List Int) (K0 : (List Int) -> Option R) (K1 : (List Int) -> Option R) : Option R :=
 l_q1d r_1 [63] (fun r1 => bi (decide ((r1.length + (bts (ByteArray.mk #[32, 61])).length) * 1 ≤ lim)) (l_q1d r_9 (r1 ++ (bts (ByteArray.mk #[32, 61]))) (fun r2 => bi (decide ((r2.length + [10].length) * 1 ≤ lim)) (K0 (r2 ++ [10])) none) (fun r3 => bi (decide ((r3.length + [10].length) * 1 ≤ lim)) (K1 (r3 ++ [10])) none)) none) (fun r4 =>
 bi (decide ((r4.length + (bts (ByteArray.mk #[32, 61])).length) * 1 ≤ lim)) (l_q1d r_9 (r4 ++ (bts (ByteArray.mk #[32, 61]))) (fun r5 => bi (decide ((r5.length + [10].length) * 1 ≤ lim)) (K1 (r5 ++ [10])) none) (fun r6 => bi (decide ((r6.length + [10].length) * 1 ≤ lim)) (K1 (r6 ++ [10])) none)) none)

def l_q1e {R : Type} := @gl_q1e @l_q1d R

theorem lasked_eq {R : Type} {w o : List Int} (hw : w.length ≤ 100000) (hwi : ∀ x ∈ w, inI x) (ho : o.length ≤ 100000) (hoi : ∀ x ∈ o, inI x) (q x1 x2 x3 x4 : Int) (x5 x6 : List Int) (a : Int) (v : List Int) (K0 K1 : List Int -> Option R) :
  l_q1e q w x1 x2 x3 x4 x5 x6 a o v K0 K1 = if w = [] ∧ o = [] then K0 (askT w o) else K1 (askT w o) := by
 have e1 : bts (ByteArray.mk #[32, 61]) = [32, 61] := rfl
 have lw := lnumS_len hwi
 have lo := lnumS_len hoi
 unfold l_q1e gl_q1e askT
 rw [lnums_eq (by omega) hwi (by simp), e1]
 by_cases c1 : w = []
 ·subst c1
  rw [if_pos rfl]
  try dsimp only
  rw [br_pos (by simp only [List.length_cons, List.length_nil, lim]; omega), lnums_eq (by omega) hoi (by simp)]
  by_cases c2 : o = []
  ·subst c2
   rw [if_pos rfl, if_pos (by simp)]
   try dsimp only
   rw [br_pos (by simp only [List.length_append, List.length_cons, List.length_nil, lim]; omega)]
   rfl
  ·rw [if_neg c2, if_neg (fun h => c2 h.2)]
   try dsimp only
   rw [br_pos (by simp only [List.length_append, List.length_cons, List.length_nil, lim]; omega)]
   rfl
 ·rw [if_neg c1, if_neg (fun h => c1 h.1)]
  try dsimp only
  rw [br_pos (by simp only [List.length_append, List.length_cons, List.length_nil, lim]; omega), lnums_eq (by omega) hoi (by simp only [List.length_append, List.length_cons, List.length_nil]; omega)]
  by_cases c2 : o = []
  ·subst c2
   rw [if_pos rfl]
   try dsimp only
   rw [br_pos (by simp only [List.length_append, List.length_cons, List.length_nil, lim]; omega)]
   simp [lnumS]
  ·rw [if_neg c2]
   try dsimp only
   rw [br_pos (by simp only [List.length_append, List.length_cons, List.length_nil, lim]; omega)]

abbrev LT_q1f := {R : Type} -> Int -> Int -> Int -> Int -> (List Int) -> (List Int) -> (Int -> (List Int) -> Option R) -> Option R
/-- text.Export -/
def l_q1f {R : Type} (m m_1 m_2 m_3 : Int) (m_4 m_5 : List Int) (K0 : Int -> List Int -> Option R) : Option R := l_Export m m_1 m_2 m_3 m_4 m_5 (fun xs e => K0 e xs)

theorem exp_eq {R : Type} {m m_1 m_2 m_3 : Int} {m_4 m_5 : List Int} (h1 : okL m_4) (h2 : okL m_5) (K0 : Int -> List Int -> Option R) :
  l_q1f m m_1 m_2 m_3 m_4 m_5 K0 = K0 (exportS m m_1 m_2 m_3 m_4 m_5).2 (exportS m m_1 m_2 m_3 m_4 m_5).1 := export_eq h1 h2 _

abbrev LT_q1g := {R : Type} -> Int -> (Nat -> (List Int) -> Option R) -> ((List Int) -> Option R) -> Option R
def l_q1g {R : Type} (n : Int) (K0 : Nat -> (List Int) -> Option R) (K1 : (List Int) -> Option R) : Option R :=
 bi (decide (n < 0)) none (bi (decide ((IntKind.i64.wrap (n - 0)) > 0)) (bi (decide (0 ≤ (0 : Int) ∧ (0 : Int) ≤ (0 : Int))) (bi (decide (1 ≤ IntKind.i64.wrap (n - 0) ∧ IntKind.i64.wrap (n - 0) ≤ 1073741824)) (bi (decide (0 ≤ (0 : Int) ∧ (0 : Int) ≤ (((List.replicate (IntKind.i64.wrap (n - 0)).toNat (0 : Int)).length : Nat) : Int))) (K0 0 (List.replicate (IntKind.i64.wrap (n - 0)).toNat (0 : Int)))
 none) none) none) (K1 ([] : List Int)))

abbrev LT_q1h := {R : Type} -> (List (List Int)) -> (Nat -> (List Int) -> Option R) -> ((List Int) -> Option R) -> Option R
abbrev GT_q1h_3 (R : Type) := (List (List Int)) -> Int -> (List (List Int)) -> Int -> Int -> Option R
abbrev GT_q1h_11a (R : Type) := Nat -> (List (List Int)) -> Int -> Int -> (List Int) -> Option R
abbrev GT_q1h_11b (R : Type) := (List (List Int)) -> Int -> Int -> (List Int) -> Option R
abbrev gs_q1h_3 (l_q1g : LT_q1g) {R : Type} (g152_3 : GT_q1h_3 R) (g152_11 : GT_q1h_11a R) (g152_11b : GT_q1h_11b R) (K0 : Nat -> (List Int) -> Option R) (K1 : (List Int) -> Option R) (slices : List (List Int)) (size : Int) (x9 : List (List Int)) (x10 x11 : Int) : Option R :=
 bi (decide (x11 < x10)) (bi (decide (0 ≤ x11 ∧ x11 < ((x9.length : Nat) : Int))) (bi (decide ((IntKind.i64.wrap (size + ((x9.getD x11.toNat []).length : Int))) < 0)) none (g152_3 slices (IntKind.i64.wrap (size + ((x9.getD x11.toNat []).length : Int))) x9 x10 (IntKind.i64.wrap (x11 + 1)))) none) (l_q1g size (fun r1 r2 => g152_11 r1 slices (slices.length : Int) 0 r2) (fun r3 =>
 g152_11b slices (slices.length : Int) 0 r3))

def s_q1h_3 {R : Type} := @gs_q1h_3 @l_q1g R

abbrev gs_q1h_11a (l_q1g : LT_q1g) {R : Type} (g152_3 : GT_q1h_3 R) (g152_11 : GT_q1h_11a R) (g152_11b : GT_q1h_11b R) (K0 : Nat -> (List Int) -> Option R) (K1 : (List Int) -> Option R) (newslice : Nat) (x25 : List (List Int)) (x26 x27 : Int) (o0 : List Int) : Option R :=
 bi (decide (x27 < x26)) (bi (decide (0 ≤ x27 ∧ x27 < ((x25.length : Nat) : Int))) (bi (decide (((o0.take newslice).length + (x25.getD x27.toNat []).length) * 1 ≤ lim)) (g152_11b x25 x26 (IntKind.i64.wrap (x27 + 1)) ((o0.take newslice) ++ (x25.getD x27.toNat []))) none) none) (K0 newslice o0)

def s_q1h_11a {R : Type} := @gs_q1h_11a @l_q1g R

abbrev gs_q1h_11b (l_q1g : LT_q1g) {R : Type} (g152_3 : GT_q1h_3 R) (g152_11 : GT_q1h_11a R) (g152_11b : GT_q1h_11b R) (K0 : Nat -> (List Int) -> Option R) (K1 : (List Int) -> Option R) (x25 : List (List Int)) (x26 x27 : Int) (o0 : List Int) : Option R :=
 bi (decide (x27 < x26)) (bi (decide (0 ≤ x27 ∧ x27 < ((x25.length : Nat) : Int))) (bi (decide ((o0.length + (x25.getD x27.toNat []).length) * 1 ≤ lim)) (g152_11b x25 x26 (IntKind.i64.wrap (x27 + 1)) (o0 ++ (x25.getD x27.toNat []))) none) none) (K1 o0)

def s_q1h_11b {R : Type} := @gs_q1h_11b @l_q1g R

abbrev ge_q1h (l_q1g : LT_q1g) {R : Type} (g152_3 : GT_q1h_3 R) (g152_11 : GT_q1h_11a R) (g152_11b : GT_q1h_11b R) (K0 : Nat -> (List Int) -> Option R) (K1 : (List Int) -> Option R) (slices : List (List Int)) : Option R :=
 g152_3 slices 0 slices (slices.length : Int) 0

def e_q1h {R : Type} := @ge_q1h @l_q1g R

def run_q1h {R : Type} (K0 : Nat -> (List Int) -> Option R) (K1 : (List Int) -> Option R) : Nat -> (GT_q1h_3 R) × (GT_q1h_11a R) × (GT_q1h_11b R)
 |0 => (fun _ _ _ _ _ => none, fun _ _ _ _ _ => none, fun _ _ _ _ => none)
 |n + 1 => (fun r => (s_q1h_3 r.1 r.2.1 r.2.2 K0 K1, s_q1h_11a r.1 r.2.1 r.2.2 K0 K1, s_q1h_11b r.1 r.2.1 r.2.2 K0 K1)) (run_q1h K0 K1 n)

def l_q1h {R : Type} (slices : List (List Int)) (K0 : Nat -> (List Int) -> Option R) (K1 : (List Int) -> Option R) : Option R := evl fun fuel => e_q1h (run_q1h K0 K1 fuel).1 (run_q1h K0 K1 fuel).2.1 (run_q1h K0 K1 fuel).2.2 K0 K1 slices

theorem bcat_go {R : Type} {ss : List (List Int)} (hl : ss.length ≤ 1000) (K0 : Nat -> List Int -> Option R) (K1 : List Int -> Option R) : ∀ (d i : Nat) (o : List Int), i + d = ss.length -> o.length + (ss.drop i).flatten.length ≤ 1000000000 →
  Reach (fun m => (run_q1h K0 K1 m).2.2 ss (ss.length : Int) (i : Int) o) (K1 (o ++ (ss.drop i).flatten)) := by
 intro d
 induction d with
 |zero =>
  intro i o hi hb
  refine .now fun m => ?_
  dsimp only [run_q1h]
  unfold s_q1h_11b gs_q1h_11b
  rw [br_neg (by omega), List.drop_of_length_le (by omega)]
  simp
 |succ d ih =>
  intro i o hi hb
  have h1 : i < ss.length := by omega
  rw [List.drop_eq_getElem_cons h1] at hb ⊢
  simp only [List.flatten_cons, List.length_append] at hb
  refine .step (fun m => ?_) ((ih (i + 1) (o ++ ss[i]) (by omega) (by rw [List.length_append]; omega)).of_eq (by rw [List.flatten_cons, List.append_assoc]))
  dsimp only [run_q1h]
  unfold s_q1h_11b gs_q1h_11b
  rw [br_pos (by omega), br_pos (by omega), Int.toNat_natCast, getD_of [] h1, br_pos (by simp only [lim]; omega), wr _ (by omega) (by omega)]
  rfl

theorem bsize_go {R : Type} {ss : List (List Int)} (hl : 0 < ss.length ∧ ss.length ≤ 1000) (hb : 1 ≤ ss.flatten.length ∧ ss.flatten.length ≤ 1000000000) (K0 : Nat -> List Int -> Option R) (K1 : List Int -> Option R) : ∀ (d i : Nat) (z : Nat), i + d = ss.length -> z + (ss.drop i).flatten.length = ss.flatten.length →
  Reach (fun m => (run_q1h K0 K1 m).1 ss (z : Int) ss (ss.length : Int) (i : Int)) (K1 ss.flatten) := by
 intro d
 induction d with
 |zero =>
  intro i z hi hz
  rw [List.drop_of_length_le (by omega)] at hz
  simp only [List.flatten_nil, List.length_nil, Nat.add_zero] at hz
  have h0 : 0 < ss.length := hl.1
  have e0 : ss.flatten = ss[0] ++ (ss.drop 1).flatten := by
   have : ss.drop 0 = ss[0] :: ss.drop 1 := List.drop_eq_getElem_cons h0
   rw [List.drop_zero] at this
   conv => lhs; rw [this]
   rfl
  have hlen := congrArg List.length e0
  rw [List.length_append] at hlen
  refine .step (G := fun m => (run_q1h K0 K1 m).2.1 0 ss (ss.length : Int) ((0 : Nat) : Int) (List.replicate z 0)) (fun m => ?_) (.step (fun m => ?_) ((bcat_go hl.2 K0 K1 (ss.length - 1) 1 ss[0] (by omega) (by omega)).of_eq (by rw [← e0])))
  ·dsimp only [run_q1h]
   unfold s_q1h_3 gs_q1h_3 l_q1g
   rw [br_neg (by omega), br_neg (by omega), wr ((z : Int) - 0) (by omega) (by omega), br_pos (by omega), br_pos (by omega), br_pos (by omega), br_pos (by rw [List.length_replicate]; omega), show ((z : Int) - 0).toNat = z by omega]
   rfl
  ·dsimp only [run_q1h]
   unfold s_q1h_11a gs_q1h_11a
   rw [br_pos (by omega), br_pos (by omega), Int.toNat_natCast, getD_of [] h0, br_pos (by simp only [List.take_zero, List.length_nil, lim]; omega), wr _ (by omega) (by omega), List.take_zero, List.nil_append]
   rfl
 |succ d ih =>
  intro i z hi hz
  have h1 : i < ss.length := by omega
  rw [List.drop_eq_getElem_cons h1] at hz
  simp only [List.flatten_cons, List.length_append] at hz
  refine .step (fun m => ?_) (ih (i + 1) (z + ss[i].length) (by omega) (by omega))
  dsimp only [run_q1h]
  unfold s_q1h_3 gs_q1h_3
  rw [br_pos (by omega), br_pos (by omega), Int.toNat_natCast, getD_of [] h1, wr ((z : Int) + (ss[i].length : Int)) (by omega) (by omega), br_neg (by omega), wr _ (by omega) (by omega)]
  rfl

theorem bconcat_eq {R : Type} {ss : List (List Int)} (hl : 0 < ss.length ∧ ss.length ≤ 1000) (hb : 1 ≤ ss.flatten.length ∧ ss.flatten.length ≤ 1000000000) (K0 : Nat -> List Int -> Option R) (K1 : List Int -> Option R) : l_q1h ss K0 K1 = K1 ss.flatten := by
 unfold l_q1h
 exact evl_eq (.same (fun m => rfl) (bsize_go hl hb K0 K1 ss.length 0 0 (by omega) (by rw [List.drop_zero, Nat.zero_add])))

abbrev LT_q1i := {R : Type} -> Int -> (List Int) -> Int -> Int -> Int -> Int -> (List Int) -> (List Int) -> Int -> (List Int) -> (List Int) -> ((List Int) -> Option R) -> ((List Int) -> Option R) -> Option R
abbrev gl_q1i (l_q1d : LT_q1d) (l_q1h : LT_q1h) (l_q1f : LT_q1f) {R : Type} (r : Int) (r_1 : List Int) (r_2 r_3 r_4 r_5 : Int) (r_6 r_7 : List Int) (r_8 : Int) (r_9 r_10 : List Int) (K0 : (List Int) -> Option R) (K1 : (List Int) -> Option R) : Option R :=
 l_q1f r_2 r_3 r_4 r_5 r_6 r_7 (fun r1 r2 => bi (decide (0 < [33, 10].length)) (bi (decide (0 < [61, 32].length)) (l_q1h [[33, 10], r2, [61, 32]] (fun r3 r4 => bi (r_8 == 2) (bi (decide (((r4.take r3).length + (bts (ByteArray.mk #[121, 10])).length) * 1 ≤ lim)) (K0 ((r4.take r3) ++ (bts (ByteArray.mk #[121, 10])))) none) (both (both
 (bi (decide (((r4.take r3).length + [110].length) * 1 ≤ lim)) (twice (l_q1d r_10 ((r4.take r3) ++ [110]) (fun r5 => bi (decide ((r5.length + [10].length) * 1 ≤ lim)) (K0 (r5 ++ [10])) none) (fun r6 => bi (decide ((r6.length + [10].length) * 1 ≤ lim)) (K1 (r6 ++ [10])) none))) none) (bi (decide (((r4.take r3).length + [110].length) * 1 ≤ lim)) (l_q1d r_10 ((r4.take r3) ++ [110])
 (fun r5 => bi (decide ((r5.length + [10].length) * 1 ≤ lim)) (K0 (r5 ++ [10])) none) (fun r6 => bi (decide ((r6.length + [10].length) * 1 ≤ lim)) (K1 (r6 ++ [10])) none)) none)) (bi (decide (((r4.take r3).length + [110].length) * 1 ≤ lim)) (l_q1d r_10 ((r4.take r3) ++ [110]) (fun r5 => bi (decide ((r5.length + [10].length) * 1 ≤ lim)) (K0 (r5 ++ [10])) none) (fun r6 =>
 bi (decide ((r6.length + [10].length) * 1 ≤ lim)) (K1 (r6 ++ [10])) none)) none))) (fun r7 => bi (r_8 == 2) (bi (decide ((r7.length + (bts (ByteArray.mk #[121, 10])).length) * 1 ≤ lim)) (K0 (r7 ++ (bts (ByteArray.mk #[121, 10])))) none) (both (both (bi (decide ((r7.length + [110].length) * 1 ≤ lim)) (twice (l_q1d r_10 (r7 ++ [110]) (fun r8 =>
 bi (decide ((r8.length + [10].length) * 1 ≤ lim)) (K0 (r8 ++ [10])) none) (fun r9 => bi (decide ((r9.length + [10].length) * 1 ≤ lim)) (K1 (r9 ++ [10])) none))) none) (bi (decide ((r7.length + [110].length) * 1 ≤ lim)) (l_q1d r_10 (r7 ++ [110]) (fun r8 => bi (decide ((r8.length + [10].length) * 1 ≤ lim)) (K0 (r8 ++ [10])) none) (fun r9 => bi (decide ((r9.length + [10].length) * 1 ≤ lim))
 (K1 (r9 ++ [10])) none)) none)) (bi (decide ((r7.length + [110].length) * 1 ≤ lim)) (l_q1d r_10 (r7 ++ [110]) (fun r8 => bi (decide ((r8.length + [10].length) * 1 ≤ lim)) (K0 (r8 ++ [10])) none) (fun r9 => bi (decide ((r9.length + [10].length) * 1 ≤ lim)) (K1 (r9 ++ [10])) none)) none)))) none) none)

def l_q1i {R : Type} := @gl_q1i @l_q1d @l_q1h @l_q1f R

theorem ltested_eq {R : Type} {k K O N : Int} {nx ou : List Int} (o1 : okL nx) (o2 : okL ou) {v : List Int} (hx : (exportS k K O N nx ou).1.length ≤ 100000000) (hv : v.length ≤ 100000) (hvi : ∀ x ∈ v, inI x) (q : Int) (w : List Int) (a : Int) (o : List Int) (KK : List Int -> Option R) :
  l_q1i q w k K O N nx ou a o v KK KK = KK (tstT (exportS k K O N nx ou).1 a v) := by
 have e1 : bts (ByteArray.mk #[121, 10]) = [121, 10] := rfl
 have lv := lnumS_len hvi
 unfold l_q1i gl_q1i l_q1f tstT
 rw [export_eq o1 o2]
 try dsimp only
 generalize (exportS k K O N nx ou).1 = ex at *
 have hf : ([[33, 10], ex, [61, 32]] : List (List Int)).flatten = [33, 10] ++ ex ++ [61, 32] := by simp
 have hl : ([33, 10] ++ ex ++ [61, 32] : List Int).length = ex.length + 4 := by
  simp only [List.length_append, List.length_cons, List.length_nil]
  omega
 rw [br_pos (by decide), br_pos (by decide), bconcat_eq (by simp) (by rw [hf, hl]; omega), hf]
 try dsimp only
 generalize hz : ([33, 10] ++ ex ++ [61, 32] : List Int) = z at *
 simp only [e1, both_same, twice_eq, thrice_eq]
 by_cases c : a = 2
 ·rw [br_eq c, if_pos c, br_pos (by simp only [List.length_cons, List.length_nil, lim]; omega)]
 ·rw [br_eq' c, if_neg c, br_pos (by simp only [List.length_cons, List.length_nil, lim]; omega), lnums_eq (by omega) hvi (by simp only [List.length_append, List.length_cons, List.length_nil]; omega)]
  by_cases d : v = []
  ·subst d
   rw [if_pos rfl]
   try dsimp only
   rw [br_pos (by simp only [List.length_append, List.length_cons, List.length_nil, lim]; omega)]
   simp [lnumS]
  ·rw [if_neg d]
   try dsimp only
   rw [br_pos (by simp only [List.length_append, List.length_cons, List.length_nil, lim]; omega)]

abbrev LT_q1j := {R : Type} -> Int -> Int -> Int -> (List Ent) -> (Int -> (List Int) -> Option R) -> (Int -> (List Int) -> Option R) -> Option R
abbrev GT_q1j_9a (R : Type) := (List Ent) -> Int -> Int -> (List Int) -> Option R
abbrev GT_q1j_9b (R : Type) := (List Ent) -> Int -> Int -> (List Int) -> Option R
abbrev gs_q1j_9a (l_q1d : LT_q1d) (l_q1a : LT_q1a) (l_q1e : LT_q1e) (l_q1i : LT_q1i) (l_q19 : LT_q19) {R : Type} (g15_9 : GT_q1j_9a R) (g15_9b : GT_q1j_9b R) (K0 : Int -> (List Int) -> Option R) (K1 : Int -> (List Int) -> Option R) (x38 : List Ent) (x39 x40 : Int) (o0 : List Int) : Option R :=
 bi (decide (x40 < x39)) (bi (decide (0 ≤ x40 ∧ x40 < ((x38.length : Nat) : Int)))
 (l_q19 ((eat x38 x40).1.1) ((eat x38 x40).1.2.1) ((eat x38 x40).1.2.2.1) ((eat x38 x40).1.2.2.2.1) ((eat x38 x40).1.2.2.2.2.1) ((eat x38 x40).1.2.2.2.2.2.1) ((eat x38 x40).1.2.2.2.2.2.2.1) ((eat x38 x40).1.2.2.2.2.2.2.2) ((eat x38 x40).2.1) ((eat x38 x40).2.2.1) ((eat x38 x40).2.2.2)
 (fun r9 r10 r11 r12 r13 r14 r15 r16 r17 r18 r19 => l_q1e r9 r10 r11 r12 r13 r14 r15 r16 r17 r18 r19 (fun r20 => bi (decide ((o0.length + r20.length) * 1 ≤ lim)) (g15_9 x38 x39 (IntKind.i64.wrap (x40 + 1)) (o0 ++ r20)) none) (fun r21 => bi (decide ((o0.length + r21.length) * 1 ≤ lim)) (g15_9 x38 x39 (IntKind.i64.wrap (x40 + 1)) (o0 ++ r21)) none))
 (fun r22 r23 r24 r25 r26 r27 r28 r29 r30 r31 r32 => l_q1i r22 r23 r24 r25 r26 r27 r28 r29 r30 r31 r32 (fun r33 => bi (decide ((o0.length + r33.length) * 1 ≤ lim)) (g15_9 x38 x39 (IntKind.i64.wrap (x40 + 1)) (o0 ++ r33)) none) (fun r34 => bi (decide ((o0.length + r34.length) * 1 ≤ lim)) (g15_9 x38 x39 (IntKind.i64.wrap (x40 + 1)) (o0 ++ r34)) none)) none) none) (K0 0 o0)

def s_q1j_9a {R : Type} := @gs_q1j_9a @l_q1d @l_q1a @l_q1e @l_q1i @l_q19 R

abbrev gs_q1j_9b (l_q1d : LT_q1d) (l_q1a : LT_q1a) (l_q1e : LT_q1e) (l_q1i : LT_q1i) (l_q19 : LT_q19) {R : Type} (g15_9 : GT_q1j_9a R) (g15_9b : GT_q1j_9b R) (K0 : Int -> (List Int) -> Option R) (K1 : Int -> (List Int) -> Option R) (x38 : List Ent) (x39 x40 : Int) (o0 : List Int) : Option R :=
 bi (decide (x40 < x39)) (bi (decide (0 ≤ x40 ∧ x40 < ((x38.length : Nat) : Int)))
 (l_q19 ((eat x38 x40).1.1) ((eat x38 x40).1.2.1) ((eat x38 x40).1.2.2.1) ((eat x38 x40).1.2.2.2.1) ((eat x38 x40).1.2.2.2.2.1) ((eat x38 x40).1.2.2.2.2.2.1) ((eat x38 x40).1.2.2.2.2.2.2.1) ((eat x38 x40).1.2.2.2.2.2.2.2) ((eat x38 x40).2.1) ((eat x38 x40).2.2.1) ((eat x38 x40).2.2.2)
 (fun r35 r36 r37 r38 r39 r40 r41 r42 r43 r44 r45 => l_q1e r35 r36 r37 r38 r39 r40 r41 r42 r43 r44 r45 (fun r46 => bi (decide ((o0.length + r46.length) * 1 ≤ lim)) (g15_9b x38 x39 (IntKind.i64.wrap (x40 + 1)) (o0 ++ r46)) none) (fun r47 => bi (decide ((o0.length + r47.length) * 1 ≤ lim)) (g15_9b x38 x39 (IntKind.i64.wrap (x40 + 1)) (o0 ++ r47)) none))
 (fun r48 r49 r50 r51 r52 r53 r54 r55 r56 r57 r58 => l_q1i r48 r49 r50 r51 r52 r53 r54 r55 r56 r57 r58 (fun r59 => bi (decide ((o0.length + r59.length) * 1 ≤ lim)) (g15_9b x38 x39 (IntKind.i64.wrap (x40 + 1)) (o0 ++ r59)) none) (fun r60 => bi (decide ((o0.length + r60.length) * 1 ≤ lim)) (g15_9b x38 x39 (IntKind.i64.wrap (x40 + 1)) (o0 ++ r60)) none)) none) none) (K1 0 o0)

def s_q1j_9b {R : Type} := @gs_q1j_9b @l_q1d @l_q1a @l_q1e @l_q1i @l_q19 R

abbrev ge_q1j (l_q1d : LT_q1d) (l_q1a : LT_q1a) (l_q1e : LT_q1e) (l_q1i : LT_q1i) (l_q19 : LT_q19) {R : Type} (g15_9 : GT_q1j_9a R) (g15_9b : GT_q1j_9b R) (K0 : Int -> (List Int) -> Option R) (K1 : Int -> (List Int) -> Option R) (l l_1 l_2 : Int) (l_3 : List Ent) : Option R :=
 l_q1a l l_1 l_2 l_3 (fun r1 r2 => bi (r2 != 0) (K0 r2 ([] : List Int)) (bi (decide (0 < [108, 111, 103, 32, 100, 102, 97].length)) (l_q1d [l_1] [108, 111, 103, 32, 100, 102, 97] (fun r3 => bi (l == 2) (bi (decide (0 < [108, 111, 103, 32, 109, 101, 97, 108, 121].length)) (l_q1d [l_1, l_2] [108, 111, 103, 32, 109, 101, 97, 108, 121] (fun r4 =>
 bi (decide ((r4.length + [10].length) * 1 ≤ lim)) (g15_9 l_3 (l_3.length : Int) 0 (r4 ++ [10])) none) (fun r5 => bi (decide ((r5.length + [10].length) * 1 ≤ lim)) (g15_9b l_3 (l_3.length : Int) 0 (r5 ++ [10])) none)) none) (bi (decide ((r3.length + [10].length) * 1 ≤ lim)) (g15_9 l_3 (l_3.length : Int) 0 (r3 ++ [10])) none)) (fun r6 => bi (l == 2)
 (bi (decide (0 < [108, 111, 103, 32, 109, 101, 97, 108, 121].length)) (l_q1d [l_1, l_2] [108, 111, 103, 32, 109, 101, 97, 108, 121] (fun r7 => bi (decide ((r7.length + [10].length) * 1 ≤ lim)) (g15_9 l_3 (l_3.length : Int) 0 (r7 ++ [10])) none) (fun r8 => bi (decide ((r8.length + [10].length) * 1 ≤ lim)) (g15_9b l_3 (l_3.length : Int) 0 (r8 ++ [10])) none)) none)
 (bi (decide ((r6.length + [10].length) * 1 ≤ lim)) (g15_9b l_3 (l_3.length : Int) 0 (r6 ++ [10])) none))) none))

def e_q1j {R : Type} := @ge_q1j @l_q1d @l_q1a @l_q1e @l_q1i @l_q19 R

def run_q1j {R : Type} (K0 : Int -> (List Int) -> Option R) (K1 : Int -> (List Int) -> Option R) : Nat -> (GT_q1j_9a R) × (GT_q1j_9b R)
 |0 => (fun _ _ _ _ => none, fun _ _ _ _ => none)
 |n + 1 => (fun r => (s_q1j_9a r.1 r.2 K0 K1, s_q1j_9b r.1 r.2 K0 K1)) (run_q1j K0 K1 n)

def l_q1j {R : Type} (l l_1 l_2 : Int) (l_3 : List Ent) (K0 : Int -> (List Int) -> Option R) (K1 : Int -> (List Int) -> Option R) : Option R := evl fun fuel => e_q1j (run_q1j K0 K1 fuel).1 (run_q1j K0 K1 fuel).2 K0 K1 l l_1 l_2 l_3

theorem lshow_go {R : Type} {l : List Ent} (hl : l.length ≤ 65536) (hx : ∀ x ∈ l, showE x) (K0 K1 : Int -> List Int -> Option R) : ∀ (d i : Nat) (o : List Int), i + d = l.length -> o.length ≤ 1000 + 110000000 * i →
  Reach (fun m => (run_q1j K0 K1 m).2 l (l.length : Int) (i : Int) o) (K1 0 (o ++ entsT (l.drop i))) := by
 intro d
 induction d with
 |zero =>
  intro i o hd ho
  refine .now fun m => ?_
  dsimp only [run_q1j]
  unfold s_q1j_9b gs_q1j_9b eat
  rw [br_neg (by omega), List.drop_of_length_le (by omega)]
  simp [entsT]
 |succ d ih =>
  intro i o hd ho
  have h1 : i < l.length := by omega
  have hE := hx _ (List.getElem_mem h1)
  have hn := entT_len hE
  rw [List.drop_eq_getElem_cons h1, entsT_cons]
  refine .step (fun m => ?_) ((ih (i + 1) (o ++ entT l[i]) (by omega) (by rw [List.length_append]; omega)).of_eq (by simp))
  dsimp only [run_q1j]
  unfold s_q1j_9b gs_q1j_9b eat
  rw [br_pos (by omega), br_pos (by omega), Int.toNat_natCast, getD_of _ h1, wr _ (by omega) (by omega)]
  unfold l_q19
  rcases hE with ⟨g1, ⟨g2, g3⟩, g4, g5⟩ | ⟨g1, ⟨g2, g3⟩, g4, g5, g6⟩
  ·have e : entT l[i] = askT l[i].1.2.1 l[i].2.2.1 := by
    unfold entT
    rw [if_pos g1]
   rw [br_eq g1]
   try dsimp only
   rw [lasked_eq g2 g3 g4 g5, ← e]
   try dsimp only
   rw [br_pos (by simp only [lim]; omega), ite_self]
   rfl
  ·have e : entT l[i] = tstT (exportS l[i].1.2.2.1 l[i].1.2.2.2.1 l[i].1.2.2.2.2.1 l[i].1.2.2.2.2.2.1 l[i].1.2.2.2.2.2.2.1 l[i].1.2.2.2.2.2.2.2).1 l[i].2.1 l[i].2.2.2 := by
    unfold entT
    rw [if_neg (by omega)]
   rw [br_eq' (by omega), br_eq g1]
   try dsimp only
   rw [ltested_eq g2 g3 g4 g5 g6, ← e]
   try dsimp only
   rw [br_pos (by simp only [lim]; omega)]
   rfl

theorem lshow_eq {R : Type} {k K O : Int} {l : List Ent} (hl : l.length ≤ 1000000) (hx : ∀ x ∈ l, okEnt x) (he : (lcheckS k K O l).2 = 0 -> ∀ x ∈ l, showE x) (K0 K1 : Int -> List Int -> Option R) :
  l_q1j k K O l K0 K1 = if (lcheckS k K O l).2 ≠ 0 then K0 (lcheckS k K O l).2 [] else K1 0 (lheadT k K O ++ entsT l) := by
 unfold l_q1j
 by_cases h : (lcheckS k K O l).2 = 0
 ·rw [if_neg (by simpa using h)]
  obtain ⟨h1, h2, h3, h4, h5⟩ := lheadS_zero.1 (lcheckS_head h)
  have iK : inI K := by unfold inI; omega
  have iO : inI O := by unfold inI; omega
  have lK := lnumS_len (l := [K]) (by simpa using iK)
  have lKO := lnumS_len (l := [K, O]) (by simpa using ⟨iK, iO⟩)
  simp only [List.length_cons, List.length_nil] at lK lKO
  have hh : (lheadT k K O).length ≤ 100 := by
   unfold lheadT
   split <;> simp only [List.length_append, List.length_cons, List.length_nil] <;> omega
  refine evl_eq (.same (G := fun m => (run_q1j K0 K1 m).2 l (l.length : Int) ((0 : Nat) : Int) (lheadT k K O)) (fun m => ?_) ((lshow_go h5 (he h) K0 K1 l.length 0 _ (by omega) (by omega)).of_eq (by rw [List.drop_zero])))
  unfold e_q1j ge_q1j
  rw [lcheck_eq hl hx]
  try dsimp only
  rw [br_ne' h, br_pos (by decide), lnums_eq (by simp) (by simpa using iK) (by simp), if_neg (by simp)]
  try dsimp only
  unfold lheadT
  by_cases c : k = 2
  ·rw [br_eq c, if_pos c, br_pos (by decide), lnums_eq (by simp) (by simpa using ⟨iK, iO⟩) (by simp), if_neg (by simp)]
   try dsimp only
   rw [br_pos (by simp only [List.length_append, List.length_cons, List.length_nil, lim]; omega)]
   rfl
  ·rw [br_eq' c, if_neg c]
   try dsimp only
   rw [br_pos (by simp only [List.length_append, List.length_cons, List.length_nil, lim]; omega)]
   rfl
 ·rw [if_pos h]
  refine evl_eq (.now fun m => ?_)
  unfold e_q1j ge_q1j
  rw [lcheck_eq hl hx]
  try dsimp only
  rw [br_ne h]

abbrev LT_q1k := {R : Type} -> Int -> Int -> Int -> (List Ent) -> (Int -> Int -> Int -> Option R) -> Option R
abbrev GT_q1k_2 (R : Type) := Int -> Int -> Int -> (List Ent) -> Int -> Int -> Option R
def s_q1k_2 {R : Type} (g28_2 : GT_q1k_2 R) (K0 : Int -> Int -> Int -> Option R) (members hypos symbols : Int) (x8 : List Ent) (x9 x10 : Int) : Option R :=
 bi (decide (x10 < x9)) (bi (decide (0 ≤ x10 ∧ x10 < ((x8.length : Nat) : Int))) (bi (((eat x8 x10).1.1) == 1)
 (g28_2 (IntKind.i64.wrap (members + 1)) hypos (if 1099511627776 < (IntKind.i64.wrap (symbols + (((eat x8 x10).1.2.1).length : Int))) then 1099511627776 else (IntKind.i64.wrap (symbols + (((eat x8 x10).1.2.1).length : Int)))) x8 x9 (IntKind.i64.wrap (x10 + 1)))
 (bi (((eat x8 x10).1.1) == 2) (g28_2 members (IntKind.i64.wrap (hypos + 1)) symbols x8 x9 (IntKind.i64.wrap (x10 + 1))) (g28_2 members hypos symbols x8 x9 (IntKind.i64.wrap (x10 + 1))))) none) (K0 members hypos symbols)

def e_q1k {R : Type} (g28_2 : GT_q1k_2 R) (K0 : Int -> Int -> Int -> Option R) (l l_1 l_2 : Int) (l_3 : List Ent) : Option R :=
 g28_2 0 0 0 l_3 (l_3.length : Int) 0

def run_q1k {R : Type} (K0 : Int -> Int -> Int -> Option R) : Nat -> GT_q1k_2 R
 |0 => fun _ _ _ _ _ _ => none
 |n + 1 => s_q1k_2 (run_q1k K0 n) K0

def l_q1k {R : Type} (l l_1 l_2 : Int) (l_3 : List Ent) (K0 : Int -> Int -> Int -> Option R) : Option R := evl fun fuel => e_q1k (run_q1k K0 fuel) K0 l l_1 l_2 l_3

/-- How much was asked. -/
def lcntS : List Ent -> Int × Int × Int -> Int × Int × Int
 |[], c => c
 |x :: l, c => lcntS l (if x.1.1 = 1 then (c.1 + 1, c.2.1, if 1099511627776 < c.2.2 + (x.1.2.1.length : Int) then 1099511627776 else c.2.2 + (x.1.2.1.length : Int)) else if x.1.1 = 2 then (c.1, c.2.1 + 1, c.2.2) else c)

theorem lcnt_go {R : Type} {l : List Ent} (hl : l.length ≤ 1000000) (hx : ∀ x ∈ l, x.1.2.1.length ≤ 17592186044000) (K0 : Int -> Int -> Int -> Option R) : ∀ (d i : Nat) (c : Int × Int × Int), i + d = l.length -> (0 ≤ c.1 ∧ c.1 ≤ i) -> (0 ≤ c.2.1 ∧ c.2.1 ≤ i) -> (0 ≤ c.2.2 ∧ c.2.2 ≤ 1099511627776) →
  Reach (fun m => run_q1k K0 m c.1 c.2.1 c.2.2 l (l.length : Int) (i : Int)) (K0 (lcntS (l.drop i) c).1 (lcntS (l.drop i) c).2.1 (lcntS (l.drop i) c).2.2) := by
 intro d
 induction d with
 |zero =>
  intro i c hd h1 h2 h3
  refine .now fun m => ?_
  dsimp only [run_q1k]
  unfold s_q1k_2 eat
  rw [br_neg (by omega), List.drop_of_length_le (by omega)]
  rfl
 |succ d ih =>
  intro i c hd h1 h2 h3
  have hi : i < l.length := by omega
  have hw := hx _ (List.getElem_mem hi)
  rw [List.drop_eq_getElem_cons hi]
  unfold lcntS
  refine .step (fun m => ?_) (ih (i + 1) _ (by omega) ?_ ?_ ?_)
  ·dsimp only [run_q1k]
   unfold s_q1k_2 eat
   rw [br_pos (by omega), br_pos (by omega), Int.toNat_natCast, getD_of _ hi, wr ((i : Int) + 1) (by omega) (by omega), wr (c.1 + 1) (by omega) (by omega), wr (c.2.1 + 1) (by omega) (by omega), wr (c.2.2 + (l[i].1.2.1.length : Int)) (by omega) (by omega)]
   by_cases c1 : l[i].1.1 = 1
   ·rw [br_eq c1, if_pos c1]
    rfl
   ·rw [br_eq' c1, if_neg c1]
    by_cases c2 : l[i].1.1 = 2
    ·rw [br_eq c2, if_pos c2]
     rfl
    ·rw [br_eq' c2, if_neg c2]
     rfl
  ·split
   ·show 0 ≤ c.1 + 1 ∧ c.1 + 1 ≤ ((i + 1 : Nat) : Int)
    omega
   ·split
    ·show 0 ≤ c.1 ∧ c.1 ≤ ((i + 1 : Nat) : Int)
     omega
    ·omega
  ·split
   ·show 0 ≤ c.2.1 ∧ c.2.1 ≤ ((i + 1 : Nat) : Int)
    omega
   ·split
    ·show 0 ≤ c.2.1 + 1 ∧ c.2.1 + 1 ≤ ((i + 1 : Nat) : Int)
     omega
    ·omega
  ·split
   ·show 0 ≤ (if 1099511627776 < c.2.2 + (l[i].1.2.1.length : Int) then 1099511627776 else c.2.2 + (l[i].1.2.1.length : Int)) ∧ (if 1099511627776 < c.2.2 + (l[i].1.2.1.length : Int) then 1099511627776 else c.2.2 + (l[i].1.2.1.length : Int)) ≤ 1099511627776
    split <;> omega
   ·split
    ·exact h3
    ·exact h3

theorem lcnt_eq {R : Type} {k K O : Int} {l : List Ent} (hl : l.length ≤ 1000000) (hx : ∀ x ∈ l, x.1.2.1.length ≤ 17592186044000) (K0 : Int -> Int -> Int -> Option R) : l_q1k k K O l K0 = K0 (lcntS l (0, 0, 0)).1 (lcntS l (0, 0, 0)).2.1 (lcntS l (0, 0, 0)).2.2 := by
 unfold l_q1k
 refine evl_eq (.same (G := fun m => run_q1k K0 m 0 0 0 l (l.length : Int) ((0 : Nat) : Int)) (fun m => rfl) ((lcnt_go hl hx K0 l.length 0 (0, 0, 0) (by omega) (by simp) (by simp) (by simp)).of_eq (by rw [List.drop_zero])))

abbrev LT_q1l := {R : Type} -> Int -> (Int -> Option R) -> Option R
def l_q1l {R : Type} (e : Int) (K0 : Int -> Option R) : Option R :=
 K0 e

abbrev LT_q1m := {R : Type} -> (Bool -> Option R) -> Option R
abbrev gl_q1m (l_q1l : LT_q1l) (l_q17 : LT_q17) (l_q1k : LT_q1k) (l_q1j : LT_q1j) {R : Type}  (K0 : Bool -> Option R) : Option R :=
 bi (decide ((ByteArray.mk #[108, 111, 103, 32, 100, 102, 97, 32, 50, 10, 63, 32, 48, 32, 49, 32, 61, 32, 49, 10, 33, 10, 100, 102, 97, 32, 50, 32, 49, 10, 48, 32, 48, 32, 48, 10, 61, 32, 110, 32, 48, 32, 49, 10]).size ≤ 1073741824))
 (l_q17 (bts (ByteArray.mk #[108, 111, 103, 32, 100, 102, 97, 32, 50, 10, 63, 32, 48, 32, 49, 32, 61, 32, 49, 10, 33, 10, 100, 102, 97, 32, 50, 32, 49, 10, 48, 32, 48, 32, 48, 10, 61, 32, 110, 32, 48, 32, 49, 10])) (fun r1 r2 r3 r4 r5 r6 => l_q1j r1 r2 r3 r6 (fun r7 r8 => l_q1k r1 r2 r3 r6 (fun r9 r10 r11 =>
 bi (decide (0 < [108, 111, 103, 32, 100, 102, 97, 32, 50, 10, 63, 32, 50, 32, 61, 32, 49, 10].length)) (l_q17 [108, 111, 103, 32, 100, 102, 97, 32, 50, 10, 63, 32, 50, 32, 61, 32, 49, 10] (fun r12 r13 r14 r15 r16 r17 => l_q1l r4 (fun r18 => l_q1l r7 (fun r19 => bi ((IntKind.i64.wrap (r18 + r19)) == 0) (bi (r5 == 44)
 (bi ((ofBts r8).toList == (ByteArray.mk #[108, 111, 103, 32, 100, 102, 97, 32, 50, 10, 63, 32, 48, 32, 49, 32, 61, 32, 49, 10, 33, 10, 100, 102, 97, 32, 50, 32, 49, 10, 48, 32, 48, 32, 48, 10, 61, 32, 110, 32, 48, 32, 49, 10]).toList) (bi (r9 == 1) (bi (r10 == 1) (bi (r11 == 2) (l_q1l r15 (fun r20 => bi (r20 == 10) (K0 (r16 == 10)) (K0 false))) (K0 false)) (K0 false)) (K0 false))
 (K0 false)) (K0 false)) (K0 false))))) none)) (fun r21 r22 => l_q1k r1 r2 r3 r6 (fun r23 r24 r25 => bi (decide (0 < [108, 111, 103, 32, 100, 102, 97, 32, 50, 10, 63, 32, 50, 32, 61, 32, 49, 10].length)) (l_q17 [108, 111, 103, 32, 100, 102, 97, 32, 50, 10, 63, 32, 50, 32, 61, 32, 49, 10] (fun r26 r27 r28 r29 r30 r31 => l_q1l r4 (fun r32 => l_q1l r21 (fun r33 =>
 bi ((IntKind.i64.wrap (r32 + r33)) == 0) (bi (r5 == 44) (bi ((ofBts r22).toList == (ByteArray.mk #[108, 111, 103, 32, 100, 102, 97, 32, 50, 10, 63, 32, 48, 32, 49, 32, 61, 32, 49, 10, 33, 10, 100, 102, 97, 32, 50, 32, 49, 10, 48, 32, 48, 32, 48, 10, 61, 32, 110, 32, 48, 32, 49, 10]).toList) (bi (r23 == 1) (bi (r24 == 1) (bi (r25 == 2) (l_q1l r29 (fun r34 => bi (r34 == 10)
 (K0 (r30 == 10)) (K0 false))) (K0 false)) (K0 false)) (K0 false)) (K0 false)) (K0 false)) (K0 false))))) none)))) none

def l_q1m {R : Type} := @gl_q1m @l_q1l @l_q17 @l_q1k @l_q1j R

theorem pageP : parseT [108, 111, 103, 32, 100, 102, 97, 32, 50, 10, 63, 32, 48, 32, 49, 32, 61, 32, 49, 10, 33, 10, 100, 102, 97, 32, 50, 32, 49, 10, 48, 32, 48, 32, 48, 10, 61, 32, 110, 32, 48, 32, 49, 10] =
  (1, 2, 2, 0, 44, [((1, ([0, 1], (1, (2, (2, (0, ([], []))))))), (1, ([1], []))), ((2, ([], (1, (2, (2, (1, ([0, 0], [0]))))))), (3, ([], [0, 1])))]) := by kernel_rfl

theorem pageC : lcheckS 1 2 2 [((1, ([0, 1], (1, (2, (2, (0, ([], []))))))), (1, ([1], []))), ((2, ([], (1, (2, (2, (1, ([0, 0], [0]))))))), (3, ([], [0, 1])))] = (2, 0) := by kernel_rfl

theorem pageT : lheadT 1 2 2 ++ entsT [((1, ([0, 1], (1, (2, (2, (0, ([], []))))))), (1, ([1], []))), ((2, ([], (1, (2, (2, (1, ([0, 0], [0]))))))), (3, ([], [0, 1])))] =
  [108, 111, 103, 32, 100, 102, 97, 32, 50, 10, 63, 32, 48, 32, 49, 32, 61, 32, 49, 10, 33, 10, 100, 102, 97, 32, 50, 32, 49, 10, 48, 32, 48, 32, 48, 10, 61, 32, 110, 32, 48, 32, 49, 10] := by kernel_rfl

theorem pageN : lcntS [((1, ([0, 1], (1, (2, (2, (0, ([], []))))))), (1, ([1], []))), ((2, ([], (1, (2, (2, (1, ([0, 0], [0]))))))), (3, ([], [0, 1])))] (0, 0, 0) = (1, 1, 2) := by kernel_rfl

theorem live27 {R : Type} (K0 : Bool -> Option R) : l_q1m K0 = K0 true := by
 unfold l_q1m gl_q1m
 have ok : ∀ x ∈ ([((1, ([0, 1], (1, (2, (2, (0, ([], []))))))), (1, ([1], []))), ((2, ([], (1, (2, (2, (1, ([0, 0], [0]))))))), (3, ([], [0, 1])))] : List Ent), okEnt x := by
  intro x hx
  simp only [List.mem_cons, List.not_mem_nil, or_false] at hx
  rcases hx with rfl | rfl <;> (unfold okEnt short; simp)
 have sh : ∀ x ∈ ([((1, ([0, 1], (1, (2, (2, (0, ([], []))))))), (1, ([1], []))), ((2, ([], (1, (2, (2, (1, ([0, 0], [0]))))))), (3, ([], [0, 1])))] : List Ent), showE x := by
  intro x hx
  simp only [List.mem_cons, List.not_mem_nil, or_false] at hx
  rcases hx with rfl | rfl
  ·exact .inl (by simp [inI])
  ·refine .inr ⟨rfl, ⟨by decide, by decide⟩, ?_, by simp [inI]⟩
   rw [show exportS (1 : Int) 2 2 1 [0, 0] [0] = ([100, 102, 97, 32, 50, 32, 49, 10, 48, 32, 48, 32, 48, 10], 0) by kernel_rfl]
   simp
 rw [br_pos (by decide), show bts (ByteArray.mk #[108, 111, 103, 32, 100, 102, 97, 32, 50, 10, 63, 32, 48, 32, 49, 32, 61, 32, 49, 10, 33, 10, 100, 102, 97, 32, 50, 32, 49, 10, 48, 32, 48, 32, 48, 10, 61, 32, 110, 32, 48, 32, 49, 10]) = [108, 111, 103, 32, 100, 102, 97, 32, 50, 10, 63, 32, 48, 32, 49, 32, 61, 32, 49, 10, 33, 10, 100, 102, 97, 32, 50, 32, 49, 10, 48, 32, 48, 32, 48, 10, 61, 32, 110, 32, 48, 32, 49, 10] by kernel_rfl, lparse_eq (by decide), parseP_eq, pageP]
 try dsimp only
 rw [lshow_eq (by simp) ok (fun _ => sh), pageC, if_neg (by simp), pageT]
 try dsimp only
 rw [lcnt_eq (by simp) (by intro x hx; simp only [List.mem_cons, List.not_mem_nil, or_false] at hx; rcases hx with rfl | rfl <;> simp), pageN]
 try dsimp only
 rw [br_pos (by decide), lparse_eq (by decide), parseP_eq, show parseT [108, 111, 103, 32, 100, 102, 97, 32, 50, 10, 63, 32, 50, 32, 61, 32, 49, 10] = (0, 0, 0, 10, 10, []) by kernel_rfl]
 dsimp only [l_q1l]
 rw [br_eq (by kernel_rfl), br_eq rfl, show ((ofBts [108, 111, 103, 32, 100, 102, 97, 32, 50, 10, 63, 32, 48, 32, 49, 32, 61, 32, 49, 10, 33, 10, 100, 102, 97, 32, 50, 32, 49, 10, 48, 32, 48, 32, 48, 10, 61, 32, 110, 32, 48, 32, 49, 10]).toList == (ByteArray.mk #[108, 111, 103, 32, 100, 102, 97, 32, 50, 10, 63, 32, 48, 32, 49, 32, 61, 32, 49, 10, 33, 10, 100, 102, 97, 32, 50, 32, 49, 10, 48, 32, 48, 32, 48, 10, 61, 32, 110, 32, 48, 32, 49, 10]).toList) = true by kernel_rfl, br_tt, br_eq rfl, br_eq rfl, br_eq rfl, br_eq rfl]
 rfl

abbrev LT_q1n := {R : Type} -> (List Int) -> Int -> ByteArray -> (Int -> Int -> Option R) -> Option R
abbrev GT_q1n_2 (R : Type) := (List Int) -> Int -> ByteArray -> Int -> Option R
def s_q1n_2 {R : Type} (g72_2 : GT_q1n_2 R) (K0 : Int -> Int -> Option R) (b : List Int) (vat : Int) (s : ByteArray) (i : Int) : Option R :=
 bi (decide (i < (s.size : Int))) (bi (decide (vat ≥ (b.length : Int))) (K0 vat 6) (bi (decide (0 ≤ vat ∧ vat < ((b.length : Nat) : Int))) (bi (decide (0 ≤ i ∧ i < ((s.size : Nat) : Int))) (bi ((b.getD vat.toNat 0) != ((s.data.toList.getD i.toNat 0).toNat : Int)) (K0 vat 6) (g72_2 b (IntKind.i64.wrap (vat + 1)) s (IntKind.i64.wrap (i + 1)))) none) none)) (K0 vat 0)

def e_q1n {R : Type} (g72_2 : GT_q1n_2 R) (K0 : Int -> Int -> Option R) (b : List Int) (vat : Int) (s : ByteArray) : Option R :=
 g72_2 b vat s 0

def run_q1n {R : Type} (K0 : Int -> Int -> Option R) : Nat -> GT_q1n_2 R
 |0 => fun _ _ _ _ => none
 |n + 1 => s_q1n_2 (run_q1n K0 n) K0

def l_q1n {R : Type} (b : List Int) (vat : Int) (s : ByteArray) (K0 : Int -> Int -> Option R) : Option R := evl fun fuel => e_q1n (run_q1n K0 fuel) K0 b vat s

theorem rw27_go {R : Type} {b : List Int} (hs : short b) (s : ByteArray) (hz : s.size ≤ 1000) (K0 : Int -> Int -> Option R) :
  ∀ (d i a : Nat), i + d = s.size -> a ≤ b.length -> Reach (fun m => run_q1n K0 m b (a : Int) s (i : Int)) (K0 (stA (wantS ((bts s).drop i) b a)) (stE (wantS ((bts s).drop i) b a))) := by
 have hl : (bts s).length = s.size := bts_size s
 unfold short at hs
 intro d
 induction d with
 |zero =>
  intro i a hi ha
  refine .now fun m => ?_
  rw [show run_q1n K0 (m + 1) = s_q1n_2 (run_q1n K0 m) K0 from rfl]
  unfold s_q1n_2
  rw [br_neg (by omega), List.drop_of_length_le (by omega)]
  rfl
 |succ d ih =>
  intro i a hi ha
  have hlt : i < (bts s).length := by omega
  rw [List.drop_eq_getElem_cons hlt]
  unfold wantS
  have e0 : ((s.data.toList.getD i 0).toNat : Int) = (bts s)[i] := by rw [bts_at, getD_of 0 hlt]
  by_cases h1 : a = b.length
  ·refine .now fun m => ?_
   rw [show run_q1n K0 (m + 1) = s_q1n_2 (run_q1n K0 m) K0 from rfl]
   unfold s_q1n_2
   rw [br_pos (by omega), br_pos (by omega), if_neg (by rw [List.getElem?_eq_none (by omega)]; simp)]
   rfl
  ·have hab : a < b.length := by omega
   by_cases h2 : b[a] = (bts s)[i]
   ·rw [if_pos (by rw [List.getElem?_eq_getElem hab, h2])]
    refine .step (fun m => ?_) (ih (i + 1) (a + 1) (by omega) (by omega))
    rw [show run_q1n K0 (m + 1) = s_q1n_2 (run_q1n K0 m) K0 from rfl]
    unfold s_q1n_2
    rw [br_pos (by omega), br_neg (by omega), br_pos (by omega), br_pos (by omega), Int.toNat_natCast, Int.toNat_natCast, getD_of 0 hab, e0, br_ne' h2, wr ((a : Int) + 1) (by omega) (by omega), wr ((i : Int) + 1) (by omega) (by omega)]
    rfl
   ·rw [if_neg (by rw [List.getElem?_eq_getElem hab]; simpa using h2)]
    refine .now fun m => ?_
    rw [show run_q1n K0 (m + 1) = s_q1n_2 (run_q1n K0 m) K0 from rfl]
    unfold s_q1n_2
    rw [br_pos (by omega), br_neg (by omega), br_pos (by omega), br_pos (by omega), Int.toNat_natCast, Int.toNat_natCast, getD_of 0 hab, e0, br_ne h2]
    rfl

theorem rw27_eq {R : Type} {b : List Int} (hs : short b) {s : ByteArray} (hz : s.size ≤ 1000) {a : Nat} (ha : a ≤ b.length) (K0 : Int -> Int -> Option R) :
  l_q1n b (a : Int) s K0 = K0 (stA (wantS (bts s) b a)) (stE (wantS (bts s) b a)) :=
 evl_eq (.same (fun m => rfl) ((rw27_go hs s hz K0 s.size 0 a (by omega) ha).of_eq (by rw [List.drop_zero])))

end
end Go.Ev
