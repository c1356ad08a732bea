/- Words: their order, their places, the next one; as lists. -/
import Derived.Test.YtdnjhojjicjndaaEvMach
namespace Go.Ev
set_option linter.unusedVariables false

def cmpI (x y : Int) : Int := if x < y then -1 else if x > y then 1 else 0

/-- Of two lists of one length which is ahead. -/
def lexS : List Int → List Int → Int
  | [], [] => 0
  | [], _ :: _ => -1
  | _ :: _, [] => 1
  | x :: xs, y :: ys => if x < y then -1 else if x > y then 1 else lexS xs ys

def compareS (a b : List Int) : Int := if a.length < b.length then -1 else if a.length > b.length then 1 else lexS a b

theorem lexS_anti : ∀ a b : List Int, lexS b a = -lexS a b
  | [], [] => rfl
  | [], _ :: _ => rfl
  | _ :: _, [] => rfl
  | x :: xs, y :: ys => by
    simp only [lexS]
    by_cases h1 : x < y
    · rw [if_neg (by omega), if_pos (by omega), if_pos h1]; rfl
    · by_cases h2 : x > y
      · rw [if_pos (by omega), if_neg h1, if_pos h2]
      · rw [if_neg (by omega), if_neg (by omega), if_neg h1, if_neg h2, lexS_anti xs ys]

theorem lexS_range : ∀ a b : List Int, lexS a b = -1 ∨ lexS a b = 0 ∨ lexS a b = 1
  | [], [] => .inr (.inl rfl)
  | [], _ :: _ => .inl rfl
  | _ :: _, [] => .inr (.inr rfl)
  | x :: xs, y :: ys => by
    simp only [lexS]
    split
    · exact .inl rfl
    · split
      · exact .inr (.inr rfl)
      · exact lexS_range xs ys

theorem lexS_zero : ∀ a b : List Int, lexS a b = 0 ↔ a = b
  | [], [] => by simp [lexS]
  | [], _ :: _ => by simp [lexS]
  | _ :: _, [] => by simp [lexS]
  | x :: xs, y :: ys => by
    simp only [lexS]
    by_cases h1 : x < y
    · rw [if_pos h1]
      refine ⟨fun h => by omega, fun h => ?_⟩
      have := (List.cons.inj h).1
      omega
    · by_cases h2 : x > y
      · rw [if_neg h1, if_pos h2]
        refine ⟨fun h => by omega, fun h => ?_⟩
        have := (List.cons.inj h).1
        omega
      · rw [if_neg h1, if_neg h2, lexS_zero xs ys]
        have : x = y := by omega
        subst this
        simp

theorem lexS_trans : ∀ a b c : List Int, a.length = b.length → b.length = c.length → lexS a b ≤ 0 → lexS b c ≤ 0 → lexS a c ≤ 0
  | [], [], [], _, _, _, _ => by simp [lexS]
  | x :: xs, y :: ys, z :: zs, h1, h2, h3, h4 => by
    simp only [List.length_cons] at h1 h2
    simp only [lexS] at h3 h4 ⊢
    by_cases a1 : x < y
    · by_cases b1 : y < z
      · rw [if_pos (by omega)]; omega
      · by_cases b2 : y > z
        · rw [if_neg b1, if_pos b2] at h4; omega
        · rw [if_pos (by omega)]; omega
    · by_cases a2 : x > y
      · rw [if_neg a1, if_pos a2] at h3; omega
      · rw [if_neg a1, if_neg a2] at h3
        by_cases b1 : y < z
        · rw [if_pos (by omega)]; omega
        · by_cases b2 : y > z
          · rw [if_neg b1, if_pos b2] at h4; omega
          · rw [if_neg b1, if_neg b2] at h4
            rw [if_neg (by omega), if_neg (by omega)]
            exact lexS_trans xs ys zs (by omega) (by omega) h3 h4
  | [], [], _ :: _, _, h, _, _ => by simp at h
  | [], _ :: _, _, h, _, _, _ => by simp at h
  | _ :: _, [], _, h, _, _, _ => by simp at h
  | _ :: _, _ :: _, [], _, h, _, _ => by simp at h

theorem lexS_snoc (x : Int) : ∀ a b : List Int, a.length = b.length → lexS (a ++ [x]) (b ++ [x]) = lexS a b
  | [], [], _ => by simp [lexS]
  | p :: ps, q :: qs, h => by
    simp only [List.length_cons] at h
    simp only [List.cons_append, lexS, lexS_snoc x ps qs (by omega)]
  | [], _ :: _, h => by simp at h
  | _ :: _, [], h => by simp at h

theorem lexS_left : ∀ c a b : List Int, lexS (c ++ a) (c ++ b) = lexS a b
  | [], a, b => rfl
  | x :: c, a, b => by
    simp only [List.cons_append, lexS]
    rw [if_neg (by omega), if_neg (by omega), lexS_left c a b]

theorem compareS_anti (a b : List Int) : compareS b a = -compareS a b := by
  unfold compareS
  by_cases h1 : a.length < b.length
  · rw [if_neg (by omega), if_pos (by omega), if_pos h1]; rfl
  · by_cases h2 : a.length > b.length
    · rw [if_pos (by omega), if_neg h1, if_pos h2]
    · rw [if_neg (by omega), if_neg (by omega), if_neg h1, if_neg h2, lexS_anti]

theorem compareS_range (a b : List Int) : compareS a b = -1 ∨ compareS a b = 0 ∨ compareS a b = 1 := by
  unfold compareS
  split
  · exact .inl rfl
  · split
    · exact .inr (.inr rfl)
    · exact lexS_range a b

theorem compareS_zero (a b : List Int) : compareS a b = 0 ↔ a = b := by
  unfold compareS
  split
  · refine ⟨fun h => by omega, fun h => ?_⟩
    subst h
    omega
  · split
    · refine ⟨fun h => by omega, fun h => ?_⟩
      subst h
      omega
    · exact lexS_zero a b

theorem compareS_trans (a b c : List Int) (h1 : compareS a b ≤ 0) (h2 : compareS b c ≤ 0) : compareS a c ≤ 0 := by
  unfold compareS at h1 h2 ⊢
  by_cases a1 : a.length < b.length
  · by_cases b2 : b.length > c.length
    · rw [if_neg (by omega), if_pos b2] at h2; omega
    · rw [if_pos (by omega)]; omega
  · by_cases a2 : a.length > b.length
    · rw [if_neg a1, if_pos a2] at h1; omega
    · rw [if_neg a1, if_neg a2] at h1
      by_cases b1 : b.length < c.length
      · rw [if_pos (by omega)]; omega
      · by_cases b2 : b.length > c.length
        · rw [if_neg b1, if_pos b2] at h2; omega
        · rw [if_neg b1, if_neg b2] at h2
          rw [if_neg (by omega), if_neg (by omega)]
          exact lexS_trans a b c (by omega) (by omega) h1 h2

theorem compareS_snoc (x : Int) (a b : List Int) : compareS (a ++ [x]) (b ++ [x]) = compareS a b := by
  unfold compareS
  simp only [List.length_append, List.length_cons, List.length_nil]
  by_cases h1 : a.length < b.length
  · rw [if_pos (by omega), if_pos h1]
  · by_cases h2 : a.length > b.length
    · rw [if_neg (by omega), if_pos (by omega), if_neg h1, if_pos h2]
    · rw [if_neg (by omega), if_neg (by omega), if_neg h1, if_neg h2, lexS_snoc x a b (by omega)]

theorem compareS_left (c a b : List Int) : compareS (c ++ a) (c ++ b) = compareS a b := by
  unfold compareS
  simp only [List.length_append]
  by_cases h1 : a.length < b.length
  · rw [if_pos (by omega), if_pos h1]
  · by_cases h2 : a.length > b.length
    · rw [if_neg (by omega), if_pos (by omega), if_neg h1, if_pos h2]
    · rw [if_neg (by omega), if_neg (by omega), if_neg h1, if_neg h2, lexS_left]

/-! ### Places -/

def validW (k : Int) (w : List Int) : Prop := ∀ x ∈ w, 0 ≤ x ∧ x < k

def rankFrom (k n : Int) (w : List Int) : Int := w.foldl (fun n x => n * k + x + 1) n
def rankS (k : Int) (w : List Int) : Int := rankFrom k 0 w

/-- How many words are shorter. -/
def lo (k : Int) : Nat → Int
  | 0 => 0
  | n + 1 => lo k n * k + 1

theorem rankFrom_cons (k n x : Int) (w : List Int) : rankFrom k n (x :: w) = rankFrom k (n * k + x + 1) w := rfl
theorem rankFrom_app (k n : Int) (a b : List Int) : rankFrom k n (a ++ b) = rankFrom k (rankFrom k n a) b := List.foldl_append
theorem rankFrom_add (k : Int) : ∀ (w : List Int) (n m : Int), rankFrom k (n + m) w = n * k ^ w.length + rankFrom k m w
  | [], n, m => by simp [rankFrom]
  | x :: w, n, m => by
    rw [rankFrom_cons, rankFrom_cons, List.length_cons, Int.pow_succ]
    have e : (n + m) * k + x + 1 = n * k + (m * k + x + 1) := by rw [Int.add_mul]; omega
    rw [e, rankFrom_add k w, Int.mul_assoc, Int.mul_comm k]

theorem rank_snoc (k x : Int) (w : List Int) : rankS k (w ++ [x]) = rankS k w * k + x + 1 := rankFrom_app k 0 w [x]
theorem rank_cons (k x : Int) (w : List Int) : rankS k (x :: w) = (x + 1) * k ^ w.length + rankS k w := by
  show rankFrom k (0 * k + x + 1) w = _
  have : 0 * k + x + 1 = (x + 1) + 0 := by omega
  rw [this, rankFrom_add]
  rfl

theorem mul_le {a b k : Int} (h : a ≤ b) (hk : 0 ≤ k) : a * k ≤ b * k := Int.mul_le_mul_of_nonneg_right h hk

theorem lo_nonneg {k : Int} (hk : 1 ≤ k) : ∀ n, 0 ≤ lo k n
  | 0 => Int.le_refl _
  | n + 1 => by
    have := Int.mul_nonneg (lo_nonneg hk n) (show 0 ≤ k by omega)
    simp only [lo]
    omega

theorem lo_succ {k : Int} : ∀ n, lo k (n + 1) = lo k n + k ^ n
  | 0 => by simp [lo]
  | n + 1 => by
    have ih := lo_succ (k := k) n
    have e : lo k (n + 2) = lo k (n + 1) * k + 1 := rfl
    have e2 : lo k (n + 1) = lo k n * k + 1 := rfl
    rw [e, Int.pow_succ, ih, Int.add_mul]
    rw [← ih, e2]
    omega

theorem pow_pos' {k : Int} (hk : 1 ≤ k) (n : Nat) : 1 ≤ k ^ n := by
  induction n with
  | zero => simp
  | succ n ih =>
    rw [Int.pow_succ]
    have := mul_le ih (show 0 ≤ k by omega)
    omega

theorem lo_mono {k : Int} (hk : 1 ≤ k) {n m : Nat} (h : n ≤ m) : lo k n ≤ lo k m := by
  induction h with
  | refl => exact Int.le_refl _
  | step _ ih =>
    rw [lo_succ]
    have := pow_pos' hk
    rename_i m _
    have := pow_pos' hk m
    omega

theorem snoc_ind {P : List Int → Prop} (h0 : P []) (h1 : ∀ w x, P w → P (w ++ [x])) : ∀ w, P w := by
  have : ∀ w : List Int, P w.reverse := by
    intro w
    induction w with
    | nil => exact h0
    | cons x w ih =>
      rw [List.reverse_cons]
      exact h1 _ _ ih
  intro w
  have := this w.reverse
  rwa [List.reverse_reverse] at this

theorem rank_range {k : Int} (hk : 1 ≤ k) : ∀ w : List Int, validW k w → lo k w.length ≤ rankS k w ∧ rankS k w < lo k (w.length + 1) := by
  refine snoc_ind (fun _ => by simp [rankS, rankFrom, lo]) fun w x ih h => ?_
  have hw : validW k w := fun y hy => h y (List.mem_append_left _ hy)
  have hx := h x (by simp)
  obtain ⟨h1, h2⟩ := ih hw
  rw [rank_snoc, List.length_append]
  simp only [List.length_cons, List.length_nil, Nat.zero_add]
  have e1 : lo k (w.length + 1) = lo k w.length * k + 1 := rfl
  have e2 : lo k (w.length + 1 + 1) = lo k (w.length + 1) * k + 1 := rfl
  have h3 := mul_le h1 (show 0 ≤ k by omega)
  have h4 := mul_le (show rankS k w + 1 ≤ lo k (w.length + 1) by omega) (show 0 ≤ k by omega)
  rw [Int.add_mul, Int.one_mul] at h4
  omega

theorem lex_rank {k : Int} (hk : 1 ≤ k) : ∀ a b : List Int, a.length = b.length → validW k a → validW k b → lexS a b = cmpI (rankS k a) (rankS k b)
  | [], [], _, _, _ => by simp [lexS, cmpI]
  | x :: xs, y :: ys, hl, ha, hb => by
    simp only [List.length_cons, Nat.add_right_cancel_iff] at hl
    have ha' : validW k xs := fun z hz => ha z (List.mem_cons_of_mem _ hz)
    have hb' : validW k ys := fun z hz => hb z (List.mem_cons_of_mem _ hz)
    have r1 := rank_range hk xs ha'
    have r2 := rank_range hk ys hb'
    rw [hl] at r1
    rw [lo_succ] at r1 r2
    rw [rank_cons, rank_cons, hl]
    simp only [lexS]
    have hp := pow_pos' hk ys.length
    by_cases h1 : x < y
    · have := mul_le (show x + 1 + 1 ≤ y + 1 by omega) (show 0 ≤ k ^ ys.length by omega)
      rw [Int.add_mul (x + 1) 1, Int.one_mul] at this
      rw [if_pos h1, cmpI, if_pos (by omega)]
    · by_cases h2 : x > y
      · have := mul_le (show y + 1 + 1 ≤ x + 1 by omega) (show 0 ≤ k ^ ys.length by omega)
        rw [Int.add_mul (y + 1) 1, Int.one_mul] at this
        rw [if_neg h1, if_pos h2, cmpI, if_neg (by omega), if_pos (by omega)]
      · have e : x = y := by omega
        subst e
        rw [if_neg h1, if_neg h2, lex_rank hk xs ys hl ha' hb']
        simp only [cmpI]
        by_cases c1 : rankS k xs < rankS k ys
        · rw [if_pos c1, if_pos (by omega)]
        · by_cases c2 : rankS k xs > rankS k ys
          · rw [if_neg c1, if_pos c2, if_neg (by omega), if_pos (by omega)]
          · rw [if_neg c1, if_neg c2, if_neg (by omega), if_neg (by omega)]
  | [], _ :: _, h, _, _ => by simp at h
  | _ :: _, [], h, _, _ => by simp at h

theorem compare_rank {k : Int} (hk : 1 ≤ k) {a b : List Int} (ha : validW k a) (hb : validW k b) : compareS a b = cmpI (rankS k a) (rankS k b) := by
  have r1 := rank_range hk a ha
  have r2 := rank_range hk b hb
  unfold compareS
  by_cases h1 : a.length < b.length
  · have := lo_mono hk (show a.length + 1 ≤ b.length by omega)
    rw [if_pos h1, cmpI, if_pos (by omega)]
  · by_cases h2 : a.length > b.length
    · have := lo_mono hk (show b.length + 1 ≤ a.length by omega)
      rw [if_neg h1, if_pos h2, cmpI, if_neg (by omega), if_pos (by omega)]
    · rw [if_neg h1, if_neg h2]
      exact lex_rank hk a b (by omega) ha hb

theorem rank_inj {k : Int} (hk : 1 ≤ k) {a b : List Int} (ha : validW k a) (hb : validW k b) (h : rankS k a = rankS k b) : a = b := by
  rw [← compareS_zero, compare_rank hk ha hb, h, cmpI, if_neg (by omega), if_neg (by omega)]

theorem rank_nonneg {k : Int} (hk : 1 ≤ k) {w : List Int} (h : validW k w) : 0 ≤ rankS k w := by
  have := (rank_range hk w h).1
  have := lo_nonneg hk w.length
  omega

theorem rankFrom_ge {k : Int} (hk : 1 ≤ k) : ∀ (w : List Int) (n : Int), 0 ≤ n → validW k w → n ≤ rankFrom k n w
  | [], n, _, _ => Int.le_refl _
  | x :: w, n, hn, h => by
    have hx := h x (by simp)
    have h1 := mul_le (show (1 : Int) ≤ k by omega) hn
    rw [Int.one_mul, Int.mul_comm] at h1
    have := rankFrom_ge hk w (n * k + x + 1) (by omega) fun y hy => h y (List.mem_cons_of_mem _ hy)
    rw [rankFrom_cons]
    omega

/-! ### The next word -/

def lastS (k : Int) (w : List Int) : Nat → List Int
  | 0 => List.replicate (w.length + 1) 0
  | i + 1 => if w.getD i 0 < k - 1 then w.take i ++ [w.getD i 0 + 1] ++ List.replicate (w.length - i - 1) 0 else lastS k w i
def afterS (k : Int) (w : List Int) : List Int := lastS k w w.length

theorem rank_carry (k : Int) : ∀ (m : Nat) (N : Int), rankFrom k (N + 1) (List.replicate m 0) = rankFrom k N (List.replicate m (k - 1)) + 1
  | 0, N => rfl
  | m + 1, N => by
    rw [List.replicate_succ, List.replicate_succ, rankFrom_cons, rankFrom_cons]
    have e1 : (N + 1) * k + 0 + 1 = (N * k + (k - 1) + 1) + 1 := by rw [Int.add_mul]; omega
    rw [e1, rank_carry k m]

theorem last_spec {k : Int} (hk : 1 ≤ k) {w : List Int} (hw : validW k w) : ∀ i, i ≤ w.length → w.drop i = List.replicate (w.length - i) (k - 1) →
    validW k (lastS k w i) ∧ rankS k (lastS k w i) = rankS k w + 1 ∧ (lastS k w i).length ≤ w.length + 1
  | 0, _, h => by
    simp only [List.drop_zero, Nat.sub_zero] at h
    refine ⟨fun x hx => ?_, ?_, by simp [lastS]⟩
    · rw [List.eq_of_mem_replicate hx]
      omega
    · have e : rankS k (lastS k w 0) = rankFrom k (0 + 1) (List.replicate w.length 0) := by
        show rankFrom k 0 (List.replicate (w.length + 1) 0) = _
        rw [List.replicate_succ, rankFrom_cons]
        congr 1
        omega
      rw [e, rank_carry, ← h]
      rfl
  | i + 1, hi, h => by
    have hlt : i < w.length := by omega
    have hg : w.getD i 0 = w[i] := getD_of 0 hlt
    have hx := hw w[i] (List.getElem_mem hlt)
    simp only [lastS]
    rw [hg]
    split
    · rename_i hlt2
      have e : w = w.take i ++ [w[i]] ++ List.replicate (w.length - i - 1) (k - 1) := by
        have e1 : w.length - i - 1 = w.length - (i + 1) := by omega
        rw [e1, ← h]
        rw [List.append_assoc, List.singleton_append, ← List.drop_eq_getElem_cons hlt, List.take_append_drop]
      refine ⟨fun x hx => ?_, ?_, ?_⟩
      · simp only [List.mem_append, List.mem_singleton] at hx
        rcases hx with (hx | hx) | hx
        · exact hw x (List.mem_of_mem_take hx)
        · omega
        · rw [List.eq_of_mem_replicate hx]
          omega
      · have e2 : rankS k w = rankS k (w.take i ++ [w[i]] ++ List.replicate (w.length - i - 1) (k - 1)) := by rw [← e]
        rw [e2]
        show rankFrom k 0 _ = rankFrom k 0 _ + 1
        rw [rankFrom_app, rankFrom_app k 0 (w.take i ++ [w[i]]), rankFrom_app, rankFrom_app k 0 (w.take i)]
        rw [← rank_carry]
        congr 1
        show rankFrom k 0 (w.take i) * k + (w[i] + 1) + 1 = rankFrom k 0 (w.take i) * k + w[i] + 1 + 1
        omega
      · simp only [List.length_append, List.length_take, List.length_cons, List.length_nil, List.length_replicate]
        omega
    · rename_i hge
      refine last_spec hk hw i (by omega) ?_
      rw [List.drop_eq_getElem_cons hlt, h, show w.length - i = (w.length - (i + 1)) + 1 from by omega, List.replicate_succ]
      congr 1
      omega

theorem after_spec {k : Int} (hk : 1 ≤ k) {w : List Int} (hw : validW k w) : validW k (afterS k w) ∧ rankS k (afterS k w) = rankS k w + 1 ∧ (afterS k w).length ≤ w.length + 1 :=
  last_spec hk hw w.length (Nat.le_refl _) (by simp)

/-! ### Counters -/

def maxC : Int := 1099511627776
def badC (a : Int) : Prop := a < 0 ∨ a > maxC
instance (a : Int) : Decidable (badC a) := by unfold badC; infer_instance
def addC (a b : Int) : Int × Int := if badC a ∨ badC b then (0, 1) else if a + b > maxC then (0, 11) else (a + b, 0)
def mulS (a b : Int) : Int × Int := if badC a ∨ badC b then (0, 1) else if a * b > maxC then (0, 11) else (a * b, 0)

/-- How many words, round by round. -/
def countP (k : Int) : Int → Nat → Int × Int
  | sum, 0 => (sum, 0)
  | sum, r + 1 => if sum * k + 1 > maxC then (0, 11) else countP k (sum * k + 1) r
def countR (k : Int) : Int → Int → Nat → Int × Int
  | sum, row, 0 => (sum, 0)
  | sum, row, r + 1 => if sum + row > maxC then (0, 11) else countR k (sum + row) (row * k) r
theorem count_same (k : Int) : ∀ (r : Nat) (s row : Int), s * k + 1 = s + row → countR k s row r = countP k s r
  | 0, s, row, _ => rfl
  | r + 1, s, row, h => by
    simp only [countR, countP]
    rw [h]
    split
    · rfl
    · refine count_same k r _ _ ?_
      rw [Int.add_mul]
      omega
def countS (k n : Int) : Int × Int :=
  if k < 1 ∨ k > 64 ∨ n < 0 then (0, 1) else if k = 1 then (if n ≥ maxC then (0, 11) else (n + 1, 0)) else countP k 1 n.toNat

theorem countS_bad {k n : Int} (h : k < 1 ∨ k > 64 ∨ n < 0) : countS k n = (0, 1) := by unfold countS; rw [if_pos h]
theorem countS_one {k n : Int} (h : ¬ n < 0) (h3 : k = 1) : countS k n = if n ≥ maxC then (0, 11) else (n + 1, 0) := by
  unfold countS
  rw [if_neg (show ¬ (k < 1 ∨ k > 64 ∨ n < 0) by omega), if_pos h3]
theorem countS_more {k n : Int} (h1 : 1 ≤ k ∧ k ≤ 64) (h2 : ¬ n < 0) (h3 : ¬ k = 1) : countS k n = countP k 1 n.toNat := by
  unfold countS
  rw [if_neg (show ¬ (k < 1 ∨ k > 64 ∨ n < 0) by omega), if_neg h3]

/-! ### Words at places -/

/-- What is wrong with a place. -/
def atE (k i : Int) : Int := if k < 1 ∨ k > 64 ∨ i < 0 then 1 else if i > maxC then 11 else if k = 1 ∧ i > 4096 then 2 else 0
theorem atE_bad {k i : Int} (h : k < 1 ∨ k > 64 ∨ i < 0) : atE k i = 1 := by unfold atE; rw [if_pos h]
theorem atE_over {k i : Int} (h1 : 1 ≤ k ∧ k ≤ 64) (h : i > maxC) : atE k i = 11 := by
  have : ¬ i < 0 := by unfold maxC at h; omega
  unfold atE
  rw [if_neg (show ¬ (k < 1 ∨ k > 64 ∨ i < 0) by omega), if_pos h]
theorem atE_long {k i : Int} (h : k = 1) (h1 : ¬ i > maxC) (h2 : i > 4096) : atE k i = 2 := by
  unfold atE
  rw [if_neg (show ¬ (k < 1 ∨ k > 64 ∨ i < 0) by omega), if_neg h1, if_pos ⟨h, h2⟩]
theorem atE_ok {k i : Int} (h1 : 1 ≤ k ∧ k ≤ 64) (h2 : 0 ≤ i) (h3 : ¬ i > maxC) (h4 : ¬ (k = 1 ∧ i > 4096)) : atE k i = 0 := by
  unfold atE
  rw [if_neg (show ¬ (k < 1 ∨ k > 64 ∨ i < 0) by omega), if_neg h3, if_neg h4]
theorem atE_zero {k i : Int} (h : atE k i = 0) : (1 ≤ k ∧ k ≤ 64) ∧ 0 ≤ i ∧ ¬ i > maxC ∧ ¬ (k = 1 ∧ i > 4096) := by
  unfold atE at h
  split at h
  · omega
  · split at h
    · omega
    · split at h
      · omega
      · rename_i a b c
        exact ⟨by omega, by omega, b, c⟩

/-- The symbols from the last one on. -/
def digR (k : Int) : Nat → Int → List Int
  | 0, _ => []
  | f + 1, i => if i > 0 then (i - 1) % k :: digR k f ((i - 1) / k) else []

theorem digR_spec {k : Int} (hk : 1 ≤ k) : ∀ (f : Nat) (i : Int), 0 ≤ i → i ≤ (f : Int) → validW k (digR k f i) ∧ rankS k (digR k f i).reverse = i
  | 0, i, h0, h1 => by
    refine ⟨fun x hx => by simp [digR] at hx, ?_⟩
    have : i = 0 := by omega
    subst this
    rfl
  | f + 1, i, h0, h1 => by
    simp only [digR]
    split
    · rename_i hi
      have hq : 0 ≤ (i - 1) / k := Int.ediv_nonneg (by omega) (by omega)
      have hle : (i - 1) / k ≤ i - 1 := Int.ediv_le_self _ (by omega)
      obtain ⟨v, e⟩ := digR_spec hk f ((i - 1) / k) hq (by omega)
      have hm1 := Int.emod_nonneg (i - 1) (show k ≠ 0 by omega)
      have hm2 := Int.emod_lt_of_pos (i - 1) (show 0 < k by omega)
      refine ⟨fun x hx => ?_, ?_⟩
      · rcases List.mem_cons.1 hx with rfl | hx
        · exact ⟨hm1, hm2⟩
        · exact v x hx
      · rw [List.reverse_cons, rank_snoc, e]
        have := Int.mul_ediv_add_emod (i - 1) k
        rw [Int.mul_comm] at this
        omega
    · refine ⟨fun x hx => by simp at hx, ?_⟩
      have : i = 0 := by omega
      subst this
      rfl

theorem digR_len {k : Int} (hk : 2 ≤ k) : ∀ (g f : Nat) (i : Int), i < 2 ^ g → (digR k f i).length ≤ g
  | _, 0, i, _ => by simp [digR]
  | 0, f + 1, i, h => by
    simp only [digR]
    rw [if_neg (by simp at h; omega)]
    simp
  | g + 1, f + 1, i, h => by
    simp only [digR]
    split
    · rename_i hi
      rw [List.length_cons]
      have h2 : (i - 1) / k < 2 ^ g := by
        refine Int.ediv_lt_of_lt_mul (by omega) ?_
        have h3 : (2 : Int) ^ g * 2 ≤ 2 ^ g * k := Int.mul_le_mul_of_nonneg_left hk (by have := pow_pos' (show (1 : Int) ≤ 2 by omega) g; omega)
        rw [Int.pow_succ] at h
        omega
      have := digR_len hk g f _ h2
      omega
    · simp

def atS (k i : Int) : List Int := if k = 1 then List.replicate i.toNat 0 else (digR k i.toNat i).reverse

/-- Digits, from the first one on. -/
def digF (k : Int) : Nat → Int → List Int
  | 0, _ => []
  | m + 1, i => i / k ^ m :: digF k m (i % k ^ m)

theorem digF_spec {k : Int} (hk : 1 ≤ k) : ∀ (m : Nat) (i : Int), 0 ≤ i → i < k ^ m → validW k (digF k m i) ∧ rankS k (digF k m i) = lo k m + i ∧ (digF k m i).length = m
  | 0, i, h0, h1 => by
    refine ⟨fun x hx => by simp [digF] at hx, ?_, rfl⟩
    have : i = 0 := by simp at h1; omega
    subst this
    rfl
  | m + 1, i, h0, h1 => by
    have hp := pow_pos' hk m
    have hm1 := Int.emod_nonneg i (show k ^ m ≠ 0 by omega)
    have hm2 := Int.emod_lt_of_pos i (show 0 < k ^ m by omega)
    have hq : 0 ≤ i / k ^ m := Int.ediv_nonneg h0 (by omega)
    have hq2 : i / k ^ m < k := by
      refine Int.ediv_lt_of_lt_mul (by omega) ?_
      rw [Int.pow_succ, Int.mul_comm] at h1
      exact h1
    obtain ⟨v, e, l⟩ := digF_spec hk m (i % k ^ m) hm1 hm2
    refine ⟨fun x hx => ?_, ?_, by simp [digF, l]⟩
    · rcases List.mem_cons.1 hx with rfl | hx
      · exact ⟨hq, hq2⟩
      · exact v x hx
    · simp only [digF]
      rw [rank_cons, l, e, lo_succ]
      have := Int.mul_ediv_add_emod i (k ^ m)
      rw [Int.mul_comm] at this
      rw [Int.add_mul]
      omega

def nextS (k : Int) (w : List Int) : Int × List Int := if (wordS k w).2 ≠ 0 then ((wordS k w).2, []) else if (afterS k w).length > 4096 then (2, []) else (0, afterS k w)
def rankR (k : Int) (w : List Int) : Int × Int := if (wordS k w).2 ≠ 0 then (0, (wordS k w).2) else if rankS k w > maxC then (0, 11) else (rankS k w, 0)
theorem at_short {k i : Int} (h : atE k i = 0) : (atS k i).length ≤ 4096 := by
  obtain ⟨h1, h2, h3, h4⟩ := atE_zero h
  unfold maxC at h3
  unfold atS
  split
  · rw [List.length_replicate]
    omega
  · rename_i hk
    rw [List.length_reverse]
    have := digR_len (show 2 ≤ k by omega) 41 i.toNat i (by omega)
    omega

theorem rank_zeros : ∀ n : Nat, rankS 1 (List.replicate n 0) = n
  | 0 => rfl
  | n + 1 => by
    rw [List.replicate_succ', rank_snoc, rank_zeros n]
    omega

theorem atS_spec {k i : Int} (h : atE k i = 0) : validW k (atS k i) ∧ rankS k (atS k i) = i := by
  obtain ⟨h1, h2, h3, h4⟩ := atE_zero h
  unfold atS
  by_cases hk : k = 1
  · subst hk
    rw [if_pos rfl]
    refine ⟨fun x hx => ?_, ?_⟩
    · rw [List.eq_of_mem_replicate hx]
      omega
    · rw [rank_zeros]
      omega
  · rw [if_neg hk]
    obtain ⟨v, e⟩ := digR_spec h1.1 i.toNat i h2 (by omega)
    exact ⟨fun x hx => v x (List.mem_reverse.1 hx), e⟩

theorem rank_at {k i : Int} (h : atE k i = 0) : rankR k (atS k i) = (i, 0) := by
  obtain ⟨h1, h2, h3, h4⟩ := atE_zero h
  obtain ⟨v, e⟩ := atS_spec h
  have hw : (wordS k (atS k i)).2 = 0 := wordS_zero.2 ⟨h1, at_short h, v⟩
  unfold rankR
  rw [if_neg (by simpa using hw), e, if_neg h3]

theorem rankR_zero {k : Int} {w : List Int} (h : (rankR k w).2 = 0) : (wordS k w).2 = 0 ∧ ¬ rankS k w > maxC ∧ (rankR k w).1 = rankS k w := by
  unfold rankR at h ⊢
  by_cases he : (wordS k w).2 = 0
  · rw [if_neg (by simpa using he)] at h ⊢
    by_cases hm : rankS k w > maxC
    · rw [if_pos hm] at h
      cases h
    · rw [if_neg hm]
      exact ⟨he, hm, rfl⟩
  · rw [if_pos he] at h
    exact absurd h he

theorem at_rank {k : Int} {w : List Int} (h : (rankR k w).2 = 0) : atE k (rankR k w).1 = 0 ∧ atS k (rankR k w).1 = w := by
  obtain ⟨hw, hm, e⟩ := rankR_zero h
  obtain ⟨hk, hl, hv⟩ := wordS_zero.1 hw
  have h0 := rank_nonneg hk.1 hv
  have hE : atE k (rankS k w) = 0 := by
    refine atE_ok hk h0 hm ?_
    rintro ⟨rfl, h2⟩
    have hr : w = List.replicate w.length 0 := List.eq_replicate_iff.2 ⟨rfl, fun x hx => by have := hv x hx; omega⟩
    rw [hr, rank_zeros] at h2
    omega
  rw [e]
  obtain ⟨v, e2⟩ := atS_spec hE
  exact ⟨hE, rank_inj hk.1 v hv e2⟩

theorem nextS_zero {k : Int} {w : List Int} (h : (nextS k w).1 = 0) : (wordS k w).2 = 0 ∧ (nextS k w).2 = afterS k w ∧ (wordS k (afterS k w)).2 = 0 ∧ rankS k (afterS k w) = rankS k w + 1 := by
  unfold nextS at h ⊢
  by_cases he : (wordS k w).2 = 0
  · rw [if_neg (by simpa using he)] at h ⊢
    by_cases hm : (afterS k w).length > 4096
    · rw [if_pos hm] at h
      cases h
    · rw [if_neg hm]
      obtain ⟨hk, hl, hv⟩ := wordS_zero.1 he
      obtain ⟨a1, a2, a3⟩ := after_spec hk.1 hv
      exact ⟨he, rfl, wordS_zero.2 ⟨hk, by omega, a1⟩, a2⟩
  · rw [if_pos he] at h
    exact absurd h he

theorem next_rank {k : Int} {w : List Int} (h : (nextS k w).1 = 0) (hr : rankS k w < maxC) : rankR k (nextS k w).2 = (rankS k w + 1, 0) := by
  obtain ⟨_, e1, e2, e3⟩ := nextS_zero h
  rw [e1]
  unfold rankR
  rw [if_neg (by simpa using e2), e3, if_neg (by omega)]

end Go.Ev
