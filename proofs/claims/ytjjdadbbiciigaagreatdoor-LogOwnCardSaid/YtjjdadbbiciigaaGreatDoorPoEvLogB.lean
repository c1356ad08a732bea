/- Logs: where a machine's text ends; what is shown is read as it was. -/
import Derived.Test.YtjjdadbbiciigaaGreatDoorPoEvLog
namespace Go.Ev
open Go.Proofs
set_option linter.unusedVariables false
set_option linter.unusedSimpArgs false

/-! ### The end of a machine's text -/

def isEnd (b : List Int) (i : Nat) : Prop := b[i]? = some 61 ∧ b[i - 1]? = some 10
instance (b : List Int) (i : Nat) : Decidable (isEnd b i) := by unfold isEnd; infer_instance

def seekE (b : List Int) : Nat -> Nat -> Nat
 |0, i => i
 |d + 1, i => if isEnd b i then i else seekE b d (i + 1)

theorem seekE_all (b : List Int) : ∀ d i : Nat, i ≤ seekE b d i ∧ seekE b d i ≤ i + d ∧ (∀ j, i ≤ j -> j < seekE b d i -> ¬ isEnd b j) ∧ (seekE b d i < i + d -> isEnd b (seekE b d i))
 |0, i => ⟨Nat.le_refl _, Nat.le_refl _, fun j h1 h2 => by
   have h2 : j < i := h2
   omega, fun h => by
   have h : i < i + 0 := h
   omega⟩
 |d + 1, i => by
  unfold seekE
  by_cases c : isEnd b i
  ·rw [if_pos c]
   exact ⟨Nat.le_refl _, by omega, fun j h1 h2 => by omega, fun _ => c⟩
  ·rw [if_neg c]
   obtain ⟨h1, h2, h3, h4⟩ := seekE_all b d (i + 1)
   refine ⟨by omega, by omega, fun j g1 g2 => ?_, fun g => h4 (by omega)⟩
   by_cases e : j = i
   ·rw [e]; exact c
   ·exact h3 j (by omega) g2

theorem byte_is {x : Int} (h : 0 ≤ x ∧ x < 256) {n : Nat} (hn : n < 256) : (UInt8.ofNat n == UInt8.ofNat x.toNat) = decide (x = (n : Int)) := by
 rw [Bool.eq_iff_iff, beq_iff_eq, decide_eq_true_eq]
 constructor
 ·intro e
  have := congrArg UInt8.toNat e
  rw [UInt8.toNat_ofNat', UInt8.toNat_ofNat', Nat.mod_eq_of_lt (show n < 2 ^ 8 by omega), Nat.mod_eq_of_lt (show x.toNat < 2 ^ 8 by omega)] at this
  omega
 ·intro e
  rw [e]
  rfl

theorem occ_end {b : List Int} (hb : isB8 b) {a : Nat} (ha : 1 ≤ a) (i : Nat) : Lib.occAt (Lib.bytesOf (b.drop (a - 1))) (Lib.bytesOf [10, 61]) i = decide (isEnd b (a + i)) := by
 have e : (Lib.bytesOf (b.drop (a - 1))).drop i = (b.drop (a - 1 + i)).map fun n => UInt8.ofNat n.toNat := by
  unfold Lib.bytesOf
  rw [← List.map_drop, List.drop_drop]
 have e2 : Lib.bytesOf [10, 61] = [UInt8.ofNat 10, UInt8.ofNat 61] := rfl
 have g1 : b[a + i - 1]? = (b.drop (a - 1 + i))[0]? := by
  rw [List.getElem?_drop]
  congr 1
  omega
 have g2 : b[a + i]? = (b.drop (a - 1 + i))[1]? := by
  rw [List.getElem?_drop]
  congr 1
  omega
 have hd : isB8 (b.drop (a - 1 + i)) := fun x hx => hb x (List.mem_of_mem_drop hx)
 have key : decide (isEnd b (a + i)) = decide ((b.drop (a - 1 + i))[1]? = some 61 ∧ (b.drop (a - 1 + i))[0]? = some 10) := decide_eq_decide.2 (by
  unfold isEnd
  rw [g1, g2])
 unfold Lib.occAt
 rw [key, e, e2]
 clear key e g1 g2
 generalize b.drop (a - 1 + i) = l at *
 match l with
 |[] => rfl
 |[x] =>
  show (UInt8.ofNat 10 == UInt8.ofNat x.toNat && false) = decide (none = some (61 : Int) ∧ _)
  rw [Bool.and_false, eq_comm, decide_eq_false]
  intro h
  cases h.1
 |x :: y :: r =>
  show (UInt8.ofNat 10 == UInt8.ofNat x.toNat && (UInt8.ofNat 61 == UInt8.ofNat y.toNat && true)) = decide (some y = some (61 : Int) ∧ some x = some (10 : Int))
  rw [byte_is (hd x (by simp)) (by decide), byte_is (hd y (by simp)) (by decide), Bool.and_true, Bool.and_comm, ← Bool.decide_and]
  simp

theorem hypEnd_seek {b : List Int} (hb : isB8 b) {a : Nat} (ha : 1 ≤ a) (hab : a ≤ b.length) :
  (seekE b (b.length - a) a = b.length -> hypEnd b a < 0) ∧ (seekE b (b.length - a) a < b.length -> hypEnd b a = ((seekE b (b.length - a) a : Nat) : Int) - a) := by
 obtain ⟨h1, h2, h3, h4⟩ := seekE_all b (b.length - a) a
 constructor
 ·intro he
  unfold hypEnd
  rw [Lib.index_none]
  ·decide
  ·intro j hj
   rw [occ_end hb ha, decide_eq_false]
   by_cases hj2 : a + j < b.length
   ·exact h3 (a + j) (by omega) (by omega)
   ·intro h
    have := (List.getElem?_eq_some_iff.1 h.1).1
    omega
 ·intro hl
  have := Lib.index_first (s := Lib.bytesOf (b.drop (a - 1))) (sub := Lib.bytesOf [10, 61]) (i := seekE b (b.length - a) a - a) (by rw [bytesOf_len, List.length_drop]; omega)
   (by rw [occ_end hb ha, decide_eq_true]; have := h4 (by omega); rwa [show a + (seekE b (b.length - a) a - a) = seekE b (b.length - a) a by omega])
   (fun j hj => by rw [occ_end hb ha, decide_eq_false]; exact h3 (a + j) (by omega) (by omega))
  unfold hypEnd
  rw [this]
  omega

/-! ### How many entries a text may have -/

theorem cnt_le (x y : UInt8) : ∀ (n : Nat) (s : List UInt8), Lib.countFrom [x, y] n s ≤ s.count y
 |0, s => Nat.zero_le _
 |n + 1, s => by
  unfold Lib.countFrom
  split
  ·exact Nat.zero_le _
  ·rename_i h
   have h : ¬ Lib.index s [x, y] = -1 := by simpa using h
   rcases Lib.index_spec s [x, y] with ⟨h1, _⟩ | ⟨i, h1, h2, h3, _⟩
   ·exact absurd h1 h
   ·have ih := cnt_le x y n (s.drop (i + 2))
    unfold Lib.occAt at h3
    obtain ⟨r, hr⟩ := List.isPrefixOf_iff_prefix.1 h3
    have e : s.drop (i + 2) = r := by
     rw [← List.drop_drop, ← hr]
     rfl
    have hc : (s.drop i).count y ≤ s.count y := (List.drop_sublist i s).count_le y
    rw [← hr] at hc
    rw [h1, show ((i : Int).toNat + [x, y].length) = i + 2 from rfl, e]
    rw [e] at ih
    simp only [List.cons_append, List.nil_append, List.count_cons, beq_self_eq_true, if_true] at hc
    omega

theorem cnt_bytes {l : List Int} (h : isB8 l) {n : Nat} (hn : n < 256) : (Lib.bytesOf l).count (UInt8.ofNat n) = l.count (n : Int) := by
 induction l with
 |nil => rfl
 |cons x l ih =>
  have hx := h x (by simp)
  have ih := ih fun y hy => h y (by simp [hy])
  have e : Lib.bytesOf (x :: l) = UInt8.ofNat x.toNat :: Lib.bytesOf l := rfl
  rw [e, List.count_cons, List.count_cons, ih]
  congr 1
  have := byte_is hx hn
  by_cases c : x = (n : Int)
  ·rw [decide_eq_true c] at this
   have h2 : UInt8.ofNat n = UInt8.ofNat x.toNat := by simpa using this
   rw [if_pos (by rw [h2]; simp), if_pos (by simpa using c)]
  ·rw [decide_eq_false c] at this
   have h2 : ¬ UInt8.ofNat n = UInt8.ofNat x.toNat := by simpa using this
   rw [if_neg (by simpa using fun q => h2 q.symm), if_neg (by simpa using c)]

theorem nentS_le {b : List Int} (hb : isB8 b) (hs : b.length ≤ 16777216) : nentS b ≤ ((b.count 63 + b.count 33 + 1 : Nat) : Int) := by
 have h1 : Lib.count (Lib.bytesOf b) (Lib.bytesOf [10, 63]) ≤ b.count 63 := by
  have := cnt_le (UInt8.ofNat 10) (UInt8.ofNat 63) ((Lib.bytesOf b).length + 1) (Lib.bytesOf b)
  rw [cnt_bytes hb (by decide)] at this
  exact this
 have h2 : Lib.count (Lib.bytesOf b) (Lib.bytesOf [10, 33]) ≤ b.count 33 := by
  have := cnt_le (UInt8.ofNat 10) (UInt8.ofNat 33) ((Lib.bytesOf b).length + 1) (Lib.bytesOf b)
  rw [cnt_bytes hb (by decide)] at this
  exact this
 have h3 := List.count_le_length (a := (63 : Int)) (l := b)
 have h4 := List.count_le_length (a := (33 : Int)) (l := b)
 unfold nentS
 rw [wr (((Lib.count (Lib.bytesOf b) (Lib.bytesOf [10, 63]) : Nat) : Int) + ((Lib.count (Lib.bytesOf b) (Lib.bytesOf [10, 33]) : Nat) : Int)) (by omega) (by omega)]
 split
 ·rw [wr _ (by omega) (by omega)]
  omega
 ·omega

theorem imp_there {b : List Int} (h : (impS b).e = 0) : Fine (impS b).k (impS b).K (impS b).O (impS b).N (impS b).nx (impS b).ou ∧ expS (impS b).k (impS b).K (impS b).O (impS b).N (impS b).nx (impS b).ou = b := by
 unfold impS at h ⊢
 split at h
 ·exact absurd h (by decide)
 ·rename_i hl
  rw [if_neg hl]
  cases hr : readS b with
  |inl e =>
   rw [hr] at h
   exact absurd h (flt_read b e hr).1
  |inr m => exact read_there hr

end Go.Ev
