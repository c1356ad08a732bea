/- Logs: what is written is read as it was. -/
import Derived.Test.YtjjdadbbiciigaaGreatDoorBkEvLogB
namespace Go.Ev
open Go.Proofs
set_option linter.unusedVariables false
set_option linter.unusedSimpArgs false

theorem get_drop {b rest : List Int} {x : Int} {a : Nat} (h : b.drop a = x :: rest) : b[a]? = some x := by
 have : (b.drop a)[0]? = some x := by rw [h]; rfl
 rwa [List.getElem?_drop, Nat.add_zero] at this

theorem digI_dig : ∀ (k u : Nat), u < k -> ∀ c ∈ digI u, isDig c
 |k + 1, u, h => by
  by_cases hu : u < 10
  ·rw [digI_lt hu]
   intro c hc
   rw [List.mem_singleton.1 hc]
   unfold isDig
   omega
  ·rw [digI_ge hu]
   intro c hc
   rcases List.mem_append.1 hc with hc | hc
   ·exact digI_dig k (u / 10) (by omega) c hc
   ·rw [List.mem_singleton.1 hc]
    unfold isDig
    omega

theorem itoa_small (n : Int) : ∀ c ∈ itoaI n, 45 ≤ c ∧ c < 58 := by
 intro c hc
 by_cases h : n < 0
 ·rw [itoaI_neg h] at hc
  rcases List.mem_cons.1 hc with rfl | hc
  ·decide
  ·have := digI_dig _ _ (Nat.lt_succ_self _) c hc
   unfold isDig at this
   omega
 ·rw [itoaI_nonneg h] at hc
  have := digI_dig _ _ (Nat.lt_succ_self _) c hc
  unfold isDig at this
  omega

theorem itoa_head {n : Int} (h : 0 ≤ n) : ∃ d r, itoaI n = d :: r ∧ isDig d := by
 have hp := itoaI_pos n
 cases e : itoaI n with
 |nil => rw [e] at hp; simp at hp
 |cons d r =>
  refine ⟨d, r, rfl, ?_⟩
  rw [itoaI_nonneg (by omega)] at e
  exact digI_dig _ _ (Nat.lt_succ_self _) d (by rw [e]; simp)

def rowStop (all : Bool) (b : List Int) (a : Nat) : Prop := ¬ (b[a]? = some 32 ∧ ¬ (all = false ∧ b[a + 1]? = some 61))

theorem lnumS_noDig (w rest : List Int) (hr : noDig rest) : noDig (lnumS w ++ rest) := by
 cases w with
 |nil => exact hr
 |cons x w =>
  rw [lnumS_cons]
  exact noDig_sp _

theorem lrow_back {all : Bool} {b rest : List Int} (hr : noDig rest) : ∀ (w : List Int) (n a : Nat) (acc : List Int), b.drop a = lnumS w ++ rest -> (∀ x ∈ w, 0 ≤ x ∧ x < 10000) -> rowStop all b (a + (lnumS w).length) -> w.length < n →
  lrow all b n a acc = .inr (a + (lnumS w).length, acc ++ w)
 |[], n + 1, a, acc, hd, hw, hs, hn => by
  have hs : rowStop all b a := hs
  unfold lrow
  rw [if_neg hs]
  simp [lnumS]
 |x :: w, n + 1, a, acc, hd, hw, hs, hn => by
  have hx := hw x (by simp)
  rw [lnumS_cons, List.append_assoc, List.cons_append] at hd
  have h0 := get_drop hd
  have hd1 : b.drop (a + 1) = itoaI x ++ (lnumS w ++ rest) := drop_next (s := [32]) hd
  obtain ⟨d, r, e, hdig⟩ := itoa_head hx.1
  have h1 : b[a + 1]? = some d := get_drop (by rw [hd1, e]; rfl)
  have hnum := num_back hx.1 hx.2 (lnumS_noDig w rest hr)
  rw [← hd1] at hnum
  have hd2 : b.drop (a + 1 + (itoaI x).length) = lnumS w ++ rest := drop_next hd1
  have hl : (lnumS (x :: w)).length = 1 + (itoaI x).length + (lnumS w).length := by
   rw [lnumS_cons, List.length_append, List.length_cons]
   omega
  unfold lrow
  rw [if_pos ⟨h0, fun q => by rw [h1] at q; have := Option.some.inj q.2; rw [this] at hdig; revert hdig; unfold isDig; decide⟩, hnum, if_neg (by simp)]
  have ih := lrow_back hr w n (a + 1 + (itoaI x).length) (acc ++ [x]) hd2 (fun y hy => hw y (by simp [hy])) (by rw [hl] at hs; rwa [show a + 1 + (itoaI x).length + (lnumS w).length = a + (1 + (itoaI x).length + (lnumS w).length) by omega]) (by simp only [List.length_cons] at hn; omega)
  refine ih.trans ?_
  rw [hl]
  congr 2
  ·omega
  ·simp

theorem lrow_there {all : Bool} {b : List Int} : ∀ (n a : Nat) (acc : List Int) (q : Nat × List Int), lrow all b n a acc = .inr q -> ∃ w, q.2 = acc ++ w ∧ b.drop a = lnumS w ++ b.drop q.1 ∧ ∀ x ∈ w, 0 ≤ x ∧ x < 10000
 |0, a, acc, q, h => by
  obtain rfl : (a, acc) = q := Sum.inr.inj h
  exact ⟨[], by simp, by simp [lnumS], by simp⟩
 |n + 1, a, acc, q, h => by
  unfold lrow at h
  by_cases c : b[a]? = some 32 ∧ ¬ (all = false ∧ b[a + 1]? = some 61)
  ·rw [if_pos c] at h
   by_cases c2 : (numL (b.drop (a + 1))).2.2 ≠ 0
   ·rw [if_pos c2] at h
    cases h
   ·rw [if_neg c2] at h
    obtain ⟨w, e1, e2, e3⟩ := lrow_there n _ _ q h
    obtain ⟨g1, g2, g3, rest, g4, _⟩ := num_there (l := b.drop (a + 1)) (n := (numL (b.drop (a + 1))).1) (k := (numL (b.drop (a + 1))).2.1) (by rw [show (0 : Int) = (numL (b.drop (a + 1))).2.2 by omega])
    have hr := drop_next g4
    rw [← g3] at hr
    obtain ⟨hlt, hget⟩ := List.getElem?_eq_some_iff.1 c.1
    refine ⟨(numL (b.drop (a + 1))).1 :: w, by rw [e1]; simp, ?_, ?_⟩
    ·rw [List.drop_eq_getElem_cons hlt, hget, lnumS_cons, List.append_assoc, ← e2, hr, List.cons_append, ← g4]
    ·intro x hx
     rcases List.mem_cons.1 hx with rfl | hx
     ·exact ⟨g1, g2⟩
     ·exact e3 x hx
  ·rw [if_neg c] at h
   obtain rfl : (a, acc) = q := Sum.inr.inj h
   exact ⟨[], by simp, by simp [lnumS], by simp⟩

theorem lnumS_ge (w : List Int) : w.length ≤ (lnumS w).length := by
 induction w with
 |nil => simp
 |cons x w ih =>
  rw [lnumS_cons, List.length_append, List.length_cons, List.length_cons]
  omega

theorem rowR_back {all : Bool} {b rest w : List Int} {a : Nat} (hr : noDig rest) (hd : b.drop a = lnumS w ++ rest) (hw : ∀ x ∈ w, 0 ≤ x ∧ x < 10000) (hs : rowStop all b (a + (lnumS w).length)) :
  rowR all b (.inr a) = .inr (a + (lnumS w).length, w) := by
 have hl := congrArg List.length hd
 rw [List.length_append, List.length_drop] at hl
 have := lnumS_ge w
 by_cases hab : a ≤ b.length
 ·have := lrow_back (all := all) hr w (b.length + 1 - a) a [] hd hw hs (by omega)
  rw [List.nil_append] at this
  exact this
 ·obtain rfl : w = [] := List.eq_nil_of_length_eq_zero (by omega)
  show lrow all b (b.length + 1 - a) a [] = _
  rw [show b.length + 1 - a = 0 by omega]
  rfl

theorem rowR_there {all : Bool} {b : List Int} {r : Rd Nat} {c : Nat} (h : roR (rowR all b r) = .inr c) : ∃ a, r = .inr a ∧ b.drop a = lnumS (roV (rowR all b r)) ++ b.drop c ∧ ∀ x ∈ roV (rowR all b r), 0 ≤ x ∧ x < 10000 := by
 cases r with
 |inl f => cases h
 |inr a =>
  have h : roR (lrow all b (b.length + 1 - a) a []) = .inr c := h
  cases hq : lrow all b (b.length + 1 - a) a [] with
  |inl f => rw [hq] at h; cases h
  |inr q =>
   rw [hq] at h
   obtain rfl : q.1 = c := Sum.inr.inj h
   obtain ⟨w, e1, e2, e3⟩ := lrow_there _ _ _ _ hq
   have e : roV (rowR all b (.inr a)) = w := by
    show roV (lrow all b (b.length + 1 - a) a []) = w
    rw [hq]
    show q.2 = w
    rw [e1]
    rfl
   rw [e]
   exact ⟨a, rfl, e2, e3⟩

theorem wnt_back {s b rest : List Int} {a : Nat} (h : b.drop a = s ++ rest) : wnt s b (.inr a) = .inr (a + s.length) := wantS_of h
theorem wnt_there {s b : List Int} {r : Rd Nat} {c : Nat} (h : wnt s b r = .inr c) : ∃ a, r = .inr a ∧ b.drop a = s ++ b.drop c := by
 cases r with
 |inl f => cases h
 |inr a =>
  have h : wantS s b a = .inr c := h
  exact ⟨a, rfl, (wantS_ok h).2⟩

/-! ### An asked word -/

theorem ask_back {b rest w o : List Int} {a : Nat} (hd : b.drop a = askT w o ++ rest) (hw : ∀ x ∈ w, 0 ≤ x ∧ x < 10000) (ho : ∀ x ∈ o, 0 ≤ x ∧ x < 10000) :
  isS [63] b (.inr a) = true ∧ isR [63] b (.inr a) = .inr (a + 1) ∧ roV (memW b (.inr (a + 1))) = w ∧ roV (memO b (.inr (a + 1))) = o ∧ memE b (.inr (a + 1)) = .inr (a + (askT w o).length) := by
 unfold askT at hd
 simp only [List.append_assoc] at hd
 have h1 : b.drop (a + 1) = lnumS w ++ ([32, 61] ++ (lnumS o ++ ([10] ++ rest))) := drop_next (s := [63]) hd
 have h2 := drop_next h1
 have h3 : b.drop (a + 1 + (lnumS w).length + 2) = lnumS o ++ ([10] ++ rest) := drop_next h2
 have h4 := drop_next h3
 have e0 : (b.drop a).take 1 = [63] := by rw [hd]; rfl
 have eW : memW b (.inr (a + 1)) = .inr (a + 1 + (lnumS w).length, w) := rowR_back (noDig_sp _) h1 hw fun q => q.2 ⟨rfl, get_drop (drop_next (s := [32]) h2)⟩
 have eS : wnt [32, 61] b (roR (memW b (.inr (a + 1)))) = .inr (a + 1 + (lnumS w).length + 2) := by
  rw [eW]
  exact wnt_back h2
 have eO : memO b (.inr (a + 1)) = .inr (a + 1 + (lnumS w).length + 2 + (lnumS o).length, o) := by
  unfold memO
  rw [eS]
  exact rowR_back (noDig_nl _) h3 ho fun q => by
   have := get_drop h4
   rw [q.1] at this
   cases this
 have eE : memE b (.inr (a + 1)) = .inr (a + 1 + (lnumS w).length + 2 + (lnumS o).length + 1) := by
  unfold memE
  rw [eO]
  exact wnt_back h4
 refine ⟨?_, ?_, ?_, ?_, ?_⟩
 ·show decide ((b.drop a).take 1 = [63]) = true
  rw [e0]
  rfl
 ·show (if (b.drop a).take 1 = [63] then (.inr (a + 1) : Rd Nat) else .inr a) = _
  rw [if_pos e0]
 ·rw [eW]; rfl
 ·rw [eO]; rfl
 ·rw [eE]
  unfold askT
  simp only [List.length_append, List.length_cons, List.length_nil]
  congr 1
  omega

theorem is_there {s b : List Int} {a : Nat} (h : isS s b (.inr a) = true) : b.drop a = s ++ b.drop (a + s.length) ∧ isR s b (.inr a) = .inr (a + s.length) := by
 have h : (b.drop a).take s.length = s := by simpa [isS] using h
 constructor
 ·rw [← List.drop_drop]
  conv => lhs; rw [← List.take_append_drop s.length (b.drop a)]
  rw [h]
 ·show (if (b.drop a).take s.length = s then (.inr (a + s.length) : Rd Nat) else .inr a) = _
  rw [if_pos h]

theorem ask_there {b : List Int} {a c : Nat} (h0 : isS [63] b (.inr a) = true) (h : memE b (isR [63] b (.inr a)) = .inr c) :
  b.drop a = askT (roV (memW b (isR [63] b (.inr a)))) (roV (memO b (isR [63] b (.inr a)))) ++ b.drop c ∧ (∀ x ∈ roV (memW b (isR [63] b (.inr a))), 0 ≤ x ∧ x < 10000) ∧ ∀ x ∈ roV (memO b (isR [63] b (.inr a))), 0 ≤ x ∧ x < 10000 := by
 obtain ⟨e0, e1⟩ := is_there h0
 rw [e1] at h ⊢
 obtain ⟨c1, h1, g1⟩ := wnt_there h
 obtain ⟨c2, h2, g2, i2⟩ := rowR_there h1
 obtain ⟨c3, h3, g3⟩ := wnt_there h2
 obtain ⟨c4, h4, g4, i4⟩ := rowR_there h3
 obtain rfl : a + [(63 : Int)].length = c4 := Sum.inr.inj h4
 refine ⟨?_, i4, i2⟩
 rw [e0, g4, g3, g2, g1]
 unfold askT memO memW
 simp

/-! ### A tested hypothesis -/

def plainC (c : Int) : Prop := c ≠ 61 ∧ c ≠ 63 ∧ c ≠ 33
instance (c : Int) : Decidable (plainC c) := by unfold plainC; infer_instance
theorem plain_itoa (n : Int) : ∀ c ∈ itoaI n, plainC c := fun c hc => by
 have := itoa_small n c hc
 unfold plainC
 omega

theorem exp_all {P : Int -> Prop} (it : ∀ n : Int, ∀ c ∈ itoaI n, P c) (hc0 : ∀ c ∈ [10, 32, 47, 100, 102, 97, 109, 101, 108, 121], P c) {k K O N : Int} {nx ou : List Int} : ∀ c ∈ expS k K O N nx ou, P c := by
 have cell : ∀ s x : Nat, ∀ c ∈ expCell k K nx ou s x, P c := by
  intro s x c hc
  have hb : P (behind K x) := by
   unfold behind
   split <;> exact hc0 _ (by simp)
  unfold expCell at hc
  split at hc
  ·simp only [List.mem_append, List.mem_singleton] at hc
   rcases hc with hc | hc
   ·exact it _ c hc
   ·rw [hc]; exact hb
  ·simp only [List.mem_append, List.mem_singleton] at hc
   rcases hc with ((hc | hc) | hc) | hc
   ·exact it _ c hc
   ·rw [hc]; exact hc0 _ (by simp)
   ·exact it _ c hc
   ·rw [hc]; exact hb
 have cells : ∀ s x : Nat, ∀ c ∈ expCells k K nx ou s x, P c := by
  intro s x
  induction x with
  |zero => intro c hc; cases hc
  |succ x ih =>
   intro c hc
   rcases List.mem_append.1 hc with hc | hc
   ·exact ih c hc
   ·exact cell s x c hc
 have rows : ∀ s : Nat, ∀ c ∈ expRows k K nx ou s, P c := by
  intro s
  induction s with
  |zero => intro c hc; cases hc
  |succ s ih =>
   intro c hc
   rcases List.mem_append.1 hc with hc | hc
   ·rcases List.mem_append.1 hc with hc | hc
    ·exact ih c hc
    ·unfold expLead at hc
     split at hc
     ·rcases List.mem_append.1 hc with hc | hc
      ·exact it _ c hc
      ·rw [List.mem_singleton.1 hc]; exact hc0 _ (by simp)
     ·cases hc
   ·exact cells s _ c hc
 intro c hc
 unfold expS at hc
 rcases List.mem_append.1 hc with hc | hc
 ·unfold expHead at hc
  split at hc
  ·simp only [List.mem_append] at hc
   rcases hc with (((hc | hc) | hc) | hc) | hc
   ·exact hc0 c (by revert hc; simp only [List.mem_cons, List.not_mem_nil, or_false]; omega)
   ·exact it _ c hc
   ·exact hc0 c (by revert hc; simp only [List.mem_cons, List.not_mem_nil, or_false]; omega)
   ·exact it _ c hc
   ·exact hc0 c (by revert hc; simp only [List.mem_cons, List.not_mem_nil, or_false]; omega)
  ·simp only [List.mem_append] at hc
   rcases hc with (((((hc | hc) | hc) | hc) | hc) | hc) | hc
   ·exact hc0 c (by revert hc; simp only [List.mem_cons, List.not_mem_nil, or_false]; omega)
   ·exact it _ c hc
   ·exact hc0 c (by revert hc; simp only [List.mem_cons, List.not_mem_nil, or_false]; omega)
   ·exact it _ c hc
   ·exact hc0 c (by revert hc; simp only [List.mem_cons, List.not_mem_nil, or_false]; omega)
   ·exact it _ c hc
   ·exact hc0 c (by revert hc; simp only [List.mem_cons, List.not_mem_nil, or_false]; omega)
 ·exact rows _ c hc

theorem exp_plain {k K O N : Int} {nx ou : List Int} : ∀ c ∈ expS k K O N nx ou, plainC c := exp_all plain_itoa (by decide)

theorem exp_61 {k K O N : Int} {nx ou : List Int} : ∀ c ∈ expS k K O N nx ou, c ≠ 61 := fun c hc => (exp_plain c hc).1

theorem exp_last {k K O N : Int} {nx ou : List Int} (F : Fine k K O N nx ou) : ∃ pre, expS k K O N nx ou = pre ++ [10] := by
 have h1 := F.fN
 have h2 := F.fK
 obtain ⟨s, hs⟩ : ∃ s : Nat, N.toNat = s + 1 := ⟨N.toNat - 1, by omega⟩
 obtain ⟨x, hx⟩ : ∃ x : Nat, K.toNat = x + 1 := ⟨K.toNat - 1, by omega⟩
 have hb : behind K x = 10 := by
  unfold behind
  rw [if_pos (by omega)]
 unfold expS
 rw [hs]
 simp only [expRows]
 rw [hx]
 simp only [expCells]
 rw [expCell_eq, hb]
 exact ⟨expHead k K O N ++ (expRows k K nx ou s ++ (expLead k ou s ++ (expCells k K nx ou s x ++ cellT k K nx ou s x))), by simp only [List.append_assoc]⟩

theorem hyp_end {b ex tail : List Int} {d : Nat} (hb : isB8 b) (hd1 : 1 ≤ d) (hp : b[d - 1]? = some 10) (hd : b.drop d = ex ++ ([61] ++ tail)) (hn : ∀ c ∈ ex, c ≠ 61) (hl : ∃ pre, ex = pre ++ [10]) : hypEnd b d = (ex.length : Int) := by
 have hlen := congrArg List.length hd
 simp only [List.length_drop, List.length_append, List.length_cons, List.length_nil] at hlen
 obtain ⟨h1, h2, h3, h4⟩ := seekE_all b (b.length - d) d
 have at_ex : ∀ j, j < ex.length -> ∃ c, b[d + j]? = some c ∧ c ∈ ex := fun j hj => by
  have : (b.drop d)[j]? = some ex[j] := by rw [hd, List.getElem?_append_left hj, List.getElem?_eq_getElem hj]
  rw [List.getElem?_drop] at this
  exact ⟨_, this, List.getElem_mem hj⟩
 have e61 : b[d + ex.length]? = some 61 := by
  have : (b.drop d)[ex.length]? = some 61 := by rw [hd, List.getElem?_append_right (by omega), Nat.sub_self]; rfl
  rwa [List.getElem?_drop] at this
 have e10 : b[d + ex.length - 1]? = some 10 := by
  obtain ⟨pre, he⟩ := hl
  have hlx : ex.length = pre.length + 1 := by rw [he, List.length_append]; rfl
  have : (b.drop d)[pre.length]? = some 10 := by
   rw [hd, he, List.append_assoc, List.getElem?_append_right (by omega), Nat.sub_self]
   rfl
  rw [List.getElem?_drop] at this
  rwa [show d + ex.length - 1 = d + pre.length by omega]
 have hE : isEnd b (d + ex.length) := ⟨e61, e10⟩
 have key : seekE b (b.length - d) d = d + ex.length := by
  rcases Nat.lt_trichotomy (seekE b (b.length - d) d) (d + ex.length) with h | h | h
  ·have := h4 (by omega)
   obtain ⟨c, g1, g2⟩ := at_ex (seekE b (b.length - d) d - d) (by omega)
   rw [show d + (seekE b (b.length - d) d - d) = seekE b (b.length - d) d by omega, this.1] at g1
   exact absurd (Option.some.inj g1).symm (hn c g2)
  ·exact h
  ·exact absurd hE (h3 _ (by omega) h)
 have := (hypEnd_seek hb hd1 (by omega)).2 (by omega)
 rw [this, key]
 omega

theorem tst_mid {ex v : List Int} {a : Int} {b rest : List Int} {p : Nat} (hd : b.drop p = tstT ex a v ++ rest) :
  b.drop (p + 2) = ex ++ ([61] ++ ([32] ++ ((if a = 2 then [121, 10] else [110] ++ (lnumS v ++ [10])) ++ rest))) := by
 have e : tstT ex a v ++ rest = [33, 10] ++ (ex ++ ([61] ++ ([32] ++ ((if a = 2 then [121, 10] else [110] ++ (lnumS v ++ [10])) ++ rest)))) := by
  unfold tstT
  split <;> simp
 rw [e] at hd
 exact drop_next (s := [33, 10]) hd

theorem tst_back {k K O N : Int} {nx ou v : List Int} (F : Fine k K O N nx ou) {a : Int} {b rest : List Int} {p : Nat} (hb : isB8 b) (hd : b.drop p = tstT (expS k K O N nx ou) a v ++ rest) (hv : ∀ x ∈ v, 0 ≤ x ∧ x < 10000) (ha : a = 2 ∨ a = 3) :
  isS [63] b (.inr p) = false ∧ isS [33] b (.inr p) = true ∧ wnt [10] b (isR [33] b (.inr p)) = .inr (p + 2) ∧ ¬ (hypEnd b (p + 2) < 0 ∨ (hypImp b (p + 2)).e ≠ 0) ∧
  hypImp b (p + 2) = ⟨k, K, O, N, 0, ((expS k K O N nx ou).length : Int), nx, ou⟩ ∧ (hypY b (p + 2) = true ↔ a = 2) ∧ (a = 3 -> roV (hypN b (p + 2)) = v) ∧ hypZ b (p + 2) = .inr (p + (tstT (expS k K O N nx ou) a v).length) := by
 have hm := tst_mid hd
 have hd0 : b.drop p = 33 :: 10 :: (expS k K O N nx ou ++ ([61] ++ ([32] ++ ((if a = 2 then [121, 10] else [110] ++ (lnumS v ++ [10])) ++ rest)))) := by
  have hl := congrArg List.length hd
  have : (tstT (expS k K O N nx ou) a v).length ≥ 2 := by
   unfold tstT
   split <;> simp <;> omega
  rw [List.length_drop, List.length_append] at hl
  have g0 : b[p]? = some 33 := get_drop (rest := (tstT (expS k K O N nx ou) a v ++ rest).tail) (by rw [hd]; unfold tstT; split <;> rfl)
  have g1 : b[p + 1]? = some 10 := get_drop (rest := (tstT (expS k K O N nx ou) a v ++ rest).tail.tail) (by rw [← List.drop_drop, hd]; unfold tstT; split <;> rfl)
  obtain ⟨l0, e0⟩ := List.getElem?_eq_some_iff.1 g0
  obtain ⟨l1, e1⟩ := List.getElem?_eq_some_iff.1 g1
  rw [List.drop_eq_getElem_cons l0, List.drop_eq_getElem_cons l1, e0, e1, hm]
 have hE := hyp_end hb (d := p + 2) (by omega) (get_drop (drop_next (s := [33]) hd0)) hm exp_61 (exp_last F)
 have hI : hypImp b (p + 2) = ⟨k, K, O, N, 0, ((expS k K O N nx ou).length : Int), nx, ou⟩ := by
  unfold hypImp
  rw [hE, Int.toNat_natCast, hm, List.take_left, import_back F]
 have hbad : ¬ (hypEnd b (p + 2) < 0 ∨ (hypImp b (p + 2)).e ≠ 0) := by
  rw [hE, hI]
  simp
 have hM : hypM b (p + 2) = .inr (p + 2 + (expS k K O N nx ou).length) := by
  unfold hypM
  rw [if_neg (fun q => hbad (.inl q)), if_neg (fun q => hbad (.inr q)), hI]
  rfl
 have h61 : b.drop (p + 2 + (expS k K O N nx ou).length) = [61, 32] ++ ((if a = 2 then [121, 10] else [110] ++ (lnumS v ++ [10])) ++ rest) := drop_next hm
 have hW : wnt [61, 32] b (hypM b (p + 2)) = .inr (p + 2 + (expS k K O N nx ou).length + 2) := by
  rw [hM]
  exact wnt_back h61
 have h5 : b.drop (p + 2 + (expS k K O N nx ou).length + 2) = (if a = 2 then [121, 10] else [110] ++ (lnumS v ++ [10])) ++ rest := drop_next h61
 have t63 : (b.drop p).take 1 = [33] := by rw [hd0]; rfl
 refine ⟨?_, ?_, ?_, hbad, hI, ?_, ?_, ?_⟩
 ·show decide ((b.drop p).take 1 = [63]) = false
  rw [t63]; rfl
 ·show decide ((b.drop p).take 1 = [33]) = true
  rw [t63]; rfl
 ·show wnt [10] b (if (b.drop p).take 1 = [33] then (.inr (p + 1) : Rd Nat) else .inr p) = _
  rw [if_pos t63]
  exact wnt_back (drop_next (s := [33]) hd0)
 ·unfold hypY
  rw [hW]
  show decide ((b.drop (p + 2 + (expS k K O N nx ou).length + 2)).take 1 = [121]) = true ↔ _
  rw [h5, decide_eq_true_eq]
  by_cases c : a = 2
  ·rw [if_pos c]
   exact ⟨fun _ => c, fun _ => rfl⟩
  ·rw [if_neg c]
   exact ⟨fun q => (by cases q), fun q => absurd q c⟩
 all_goals
  rcases ha with rfl | rfl
  ·first
   |intro q; cases q
   |rw [if_pos rfl] at h5
    have hY : hypY b (p + 2) = true := by
     unfold hypY
     rw [hW]
     show decide ((b.drop (p + 2 + (expS k K O N nx ou).length + 2)).take 1 = [121]) = true
     rw [h5]
     rfl
    unfold hypZ
    rw [if_pos hY, hW]
    show wnt [10] b (if (b.drop (p + 2 + (expS k K O N nx ou).length + 2)).take 1 = [121] then (.inr (p + 2 + (expS k K O N nx ou).length + 2 + 1) : Rd Nat) else _) = _
    have h9 : b.drop (p + 2 + (expS k K O N nx ou).length + 2 + 1) = [10] ++ rest := drop_next (s := [121]) (rest := [10] ++ rest) (by rw [h5]; rfl)
    rw [if_pos (by rw [h5]; rfl), wnt_back h9]
    unfold tstT
    rw [if_pos rfl]
    simp only [List.length_append, List.length_cons, List.length_nil]
    congr 1
    omega
  ·rw [if_neg (by decide)] at h5
   have hYf : hypY b (p + 2) = false := by
    unfold hypY
    rw [hW]
    show decide ((b.drop (p + 2 + (expS k K O N nx ou).length + 2)).take 1 = [121]) = false
    rw [h5]
    rfl
   have h6 : b.drop (p + 2 + (expS k K O N nx ou).length + 2 + 1) = lnumS v ++ ([10] ++ rest) := by
    have := drop_next (s := [110]) (by rw [List.append_assoc] at h5; exact h5)
    rw [List.append_assoc] at this
    exact this
   have h7 := drop_next h6
   have hN : hypN b (p + 2) = .inr (p + 2 + (expS k K O N nx ou).length + 2 + 1 + (lnumS v).length, v) := by
    unfold hypN
    rw [hW]
    show rowR true b (wnt [110] b (if (b.drop (p + 2 + (expS k K O N nx ou).length + 2)).take 1 = [121] then _ else (.inr (p + 2 + (expS k K O N nx ou).length + 2) : Rd Nat))) = _
    rw [if_neg (by rw [h5]; simp), wnt_back (rest := lnumS v ++ ([10] ++ rest)) (by rw [h5]; simp)]
    exact rowR_back (noDig_nl _) h6 hv fun q => by
     have := (get_drop h7).symm.trans q.1
     cases this
   first
   |intro _
    rw [hN]
    rfl
   |unfold hypZ
    rw [if_neg (by rw [hYf]; decide), hN]
    show wnt [10] b (.inr (p + 2 + (expS k K O N nx ou).length + 2 + 1 + (lnumS v).length)) = _
    rw [wnt_back h7]
    unfold tstT
    rw [if_neg (by decide)]
    simp only [List.length_append, List.length_cons, List.length_nil]
    congr 1
    omega

theorem tst_there {b : List Int} {p d c : Nat} (h0 : isS [33] b (.inr p) = true) (hw : wnt [10] b (isR [33] b (.inr p)) = .inr d) (hbad : ¬ (hypEnd b d < 0 ∨ (hypImp b d).e ≠ 0)) (h : hypZ b d = .inr c) :
  Fine (hypImp b d).k (hypImp b d).K (hypImp b d).O (hypImp b d).N (hypImp b d).nx (hypImp b d).ou ∧
  b.drop p = tstT (expS (hypImp b d).k (hypImp b d).K (hypImp b d).O (hypImp b d).N (hypImp b d).nx (hypImp b d).ou) (if hypY b d = true then 2 else 3) (if hypY b d = true then [] else roV (hypN b d)) ++ b.drop c ∧
  (∀ x ∈ (if hypY b d = true then [] else roV (hypN b d)), 0 ≤ x ∧ x < 10000) := by
 obtain ⟨e0, e1⟩ := is_there h0
 rw [e1] at hw
 obtain ⟨a0, ha0, e2⟩ := wnt_there hw
 obtain rfl : p + [(33 : Int)].length = a0 := Sum.inr.inj ha0
 have hd : d = p + 2 := by
  have : wantS [10] b (p + [(33 : Int)].length) = .inr d := hw
  have := (wantS_ok this).1
  simp only [List.length_cons, List.length_nil] at this
  omega
 have he : (hypImp b d).e = 0 := Decidable.not_not.1 fun q => hbad (.inr q)
 obtain ⟨F, hx⟩ := imp_there he
 refine ⟨F, ?_⟩
 have hdb : d ≤ b.length := by
  have := congrArg List.length e0
  have := congrArg List.length e2
  simp only [List.length_append, List.length_drop, List.length_cons, List.length_nil] at *
  omega
 have hroom := hypEnd_room (b := b) (a := d) ⟨by omega, hdb⟩ (fun q => hbad (.inl q))
 have hp : (hypImp b d).p = (((b.drop d).take (hypEnd b d).toNat).length : Int) := impS_place _ he
 rw [List.length_take, List.length_drop] at hp
 have hM : hypM b d = .inr (d + (hypEnd b d).toNat) := by
  unfold hypM
  rw [if_neg (fun q => hbad (.inl q)), if_neg (fun q => hbad (.inr q))]
  congr 1
  omega
 have hsp : b.drop d = (b.drop d).take (hypEnd b d).toNat ++ b.drop (d + (hypEnd b d).toNat) := by
  rw [← List.drop_drop, List.take_append_drop]
 have hxx : expS (hypImp b d).k (hypImp b d).K (hypImp b d).O (hypImp b d).N (hypImp b d).nx (hypImp b d).ou = (b.drop d).take (hypEnd b d).toNat := hx
 rw [hxx]
 generalize (b.drop d).take (hypEnd b d).toNat = ex at *
 by_cases c1 : hypY b d = true
 ·rw [if_pos c1, if_pos c1]
  unfold hypZ at h
  rw [if_pos c1] at h
  unfold hypY at c1
  obtain ⟨c2, h2, g2⟩ := wnt_there h
  obtain ⟨c3, h3, _⟩ := isR_gt h2
  rw [h3] at c1 h2
  obtain ⟨g3, r3⟩ := is_there c1
  rw [r3] at h2
  obtain rfl := Sum.inr.inj h2
  obtain ⟨c4, h4, g4⟩ := wnt_there h3
  rw [hM] at h4
  obtain rfl := Sum.inr.inj h4
  refine ⟨?_, by intro x hx; cases hx⟩
  unfold tstT
  rw [if_pos rfl, e0, e2, hsp, g4, g3, g2]
  simp
 ·rw [if_neg c1, if_neg c1]
  unfold hypZ at h
  rw [if_neg c1] at h
  unfold hypY at c1
  obtain ⟨c2, h2, g2⟩ := wnt_there h
  obtain ⟨c3, h3, g3, i3⟩ := rowR_there h2
  obtain ⟨c4, h4, g4⟩ := wnt_there h3
  rw [isR_no c1] at h4
  obtain ⟨c5, h5, g5⟩ := wnt_there h4
  rw [hM] at h5
  obtain rfl := Sum.inr.inj h5
  refine ⟨?_, i3⟩
  unfold tstT
  rw [if_neg (by decide), e0, e2, hsp, g5, g4, g3, g2]
  unfold hypN
  simp

end Go.Ev
