/- A text that is read is what is written. -/
import Derived.Test.YtjjdadbbiciigaaGreatDoorPoEvBack
namespace Go.Ev
set_option linter.unusedVariables false
set_option linter.unusedSimpArgs false

theorem numbS_there {lo hi kd : Int} {b : List Int} {a : Nat} {q : Int × Nat} (h : numbS lo hi kd b a = .inr q) :
  0 ≤ q.1 ∧ lo ≤ q.1 ∧ q.1 ≤ hi ∧ b.drop a = itoaI q.1 ++ b.drop q.2 := by
 obtain ⟨h1, h2, h3, h4⟩ := numbS_ok h
 obtain ⟨g1, _, g2, rest, g3, _⟩ := num_there h1
 refine ⟨g1, h3, h4, ?_⟩
 have := drop_next g3
 rw [← g2, show a + (q.2 - a) = q.2 by omega] at this
 rw [this]
 exact g3

theorem getD_mid {l r : List Int} {x : Int} {i : Nat} (h : l.length = i) : (l ++ (x :: r)).getD i 0 = x := by
 rw [List.getD_eq_getElem?_getD, List.getElem?_append_right (by omega), h, Nat.sub_self]
 rfl

theorem cells_there {k K O N : Int} {b : List Int} {s : Nat} (hk : k = 1 ∨ k = 2) : ∀ (d x a : Nat) (nx' ou' : List Int) (q : Nat × List Int × List Int),
  cellsS k O N b d x a nx' ou' = .inr q -> nx'.length = s * K.toNat + x -> (k = 2 -> ou'.length = s * K.toNat + x) →
  ∃ ns os, q.2.1 = nx' ++ ns ∧ ns.length = d ∧ (∀ y ∈ ns, 0 ≤ y ∧ y < N) ∧ q.2.2 = ou' ++ os ∧ os.length = (if k = 2 then d else 0) ∧ (∀ y ∈ os, 0 ≤ y ∧ y < O) ∧
   ∀ more more', b.drop a = lineT k K (q.2.1 ++ more) (q.2.2 ++ more') s d x ++ b.drop q.1
 |0, x, a, nx', ou', q, h, hl, ho => by
  obtain rfl : (a, nx', ou') = q := by simp only [cellsS] at h; exact Sum.inr.inj h
  exact ⟨[], [], by simp, rfl, by simp, by simp, by simp, by simp, fun _ _ => by simp [lineT]⟩
 |d + 1, x, a, nx', ou', q, h, hl, ho => by
  simp only [cellsS] at h
  obtain ⟨p, h1, h2⟩ := bindR_ok h
  unfold cellS at h1
  obtain ⟨a1, w1, h1⟩ := bindR_ok h1
  obtain ⟨n, w2, h1⟩ := bindR_ok h1
  have e1 : b.drop a = (if 0 < x ∨ k = 1 then [32] else []) ++ b.drop a1 := by
   by_cases c : 0 < x ∨ k = 1
   ·rw [if_pos c] at w1 ⊢
    exact (wantS_ok w1).2
   ·rw [if_neg c] at w1 ⊢
    obtain rfl := Sum.inr.inj w1
    rfl
  obtain ⟨n0, n1, n2, e2⟩ := numbS_there w2
  by_cases c : k = 2
  ·rw [if_pos c] at h1
   obtain ⟨a2, w3, h1⟩ := bindR_ok h1
   obtain ⟨o, w4, h1⟩ := bindR_ok h1
   obtain rfl := Sum.inr.inj h1
   obtain ⟨o0, o1, o2, e4⟩ := numbS_there w4
   have e3 := (wantS_ok w3).2
   obtain ⟨ns, os, g1, g2, g3, g4, g5, g6, g7⟩ := cells_there (K := K) (s := s) hk d (x + 1) _ _ _ q h2 (by simp; omega) (fun _ => by have := ho c; simp; omega)
   simp only at g1 g4 g7
   refine ⟨n.1 :: ns, o.1 :: os, by rw [g1]; simp, by simp [g2], ?_, by rw [g4]; simp, by rw [if_pos c] at g5 ⊢; simp [g5], ?_, fun more more' => ?_⟩
   ·intro y hy
    rcases List.mem_cons.1 hy with rfl | hy
    ·omega
    ·exact g3 y hy
   ·intro y hy
    rcases List.mem_cons.1 hy with rfl | hy
    ·omega
    ·exact g6 y hy
   ·have d1 : (q.2.1 ++ more).getD (s * K.toNat + x) 0 = n.1 := by
     rw [g1]
     simp only [List.append_assoc, List.singleton_append, List.cons_append]
     exact getD_mid hl
    have d2 : (q.2.2 ++ more').getD (s * K.toNat + x) 0 = o.1 := by
     rw [g4]
     simp only [List.append_assoc, List.singleton_append, List.cons_append]
     exact getD_mid (ho c)
    rw [e1, e2, e3, e4, g7 more more']
    simp only [lineT, cellT, if_neg (show ¬ k = 1 by omega), d1, d2, List.append_assoc]
  ·rw [if_neg c] at h1
   obtain rfl := Sum.inr.inj h1
   obtain ⟨ns, os, g1, g2, g3, g4, g5, g6, g7⟩ := cells_there (K := K) (s := s) hk d (x + 1) _ _ _ q h2 (by simp; omega) (fun hc => absurd hc c)
   simp only at g1 g4 g7
   refine ⟨n.1 :: ns, os, by rw [g1]; simp, by simp [g2], ?_, g4, by rw [if_neg c] at g5 ⊢; exact g5, g6, fun more more' => ?_⟩
   ·intro y hy
    rcases List.mem_cons.1 hy with rfl | hy
    ·omega
    ·exact g3 y hy
   ·have d1 : (q.2.1 ++ more).getD (s * K.toNat + x) 0 = n.1 := by
     rw [g1]
     simp only [List.append_assoc, List.singleton_append, List.cons_append]
     exact getD_mid hl
    rw [e1, e2, g7 more more']
    simp only [lineT, cellT, if_pos (show k = 1 by omega), d1, List.append_assoc]

theorem row_there {k K O N : Int} {b : List Int} {s : Nat} (hk : k = 1 ∨ k = 2) (hK : 1 ≤ K) (hO : k = 1 -> O = 2) {a : Nat} {nx' ou' : List Int} {q : Nat × List Int × List Int}
  (h : rowS k K O N b a nx' ou' = .inr q) (hl : nx'.length = s * K.toNat) (ho1 : k = 1 -> ou'.length = s) (ho2 : k = 2 -> ou'.length = s * K.toNat) :
  ∃ ns os, q.2.1 = nx' ++ ns ∧ ns.length = K.toNat ∧ (∀ y ∈ ns, 0 ≤ y ∧ y < N) ∧ q.2.2 = ou' ++ os ∧ os.length = (if k = 2 then K.toNat else 1) ∧ (∀ y ∈ os, 0 ≤ y ∧ y < O) ∧
   ∀ more more', b.drop a = expLead k (q.2.2 ++ more') s ++ expCells k K (q.2.1 ++ more) (q.2.2 ++ more') s K.toNat ++ b.drop q.1 := by
 unfold rowS at h
 obtain ⟨p, h1, h⟩ := bindR_ok h
 obtain ⟨q1, h2, h⟩ := bindR_ok h
 obtain ⟨a2, h3, h⟩ := bindR_ok h
 obtain rfl := Sum.inr.inj h
 have e3 := (wantS_ok h3).2
 unfold leadS at h1
 by_cases c : k = 1
 ·rw [if_pos c] at h1
  obtain ⟨o, w1, h1⟩ := bindR_ok h1
  obtain rfl := Sum.inr.inj h1
  obtain ⟨o0, o1, o2, e1⟩ := numbS_there w1
  obtain ⟨ns, os, g1, g2, g3, g4, g5, g6, g7⟩ := cells_there (K := K) (s := s) hk K.toNat 0 _ _ _ q1 h2 (by omega) (fun hc => by omega)
  rw [if_neg (by omega)] at g5
  obtain rfl := List.eq_nil_of_length_eq_zero g5
  simp only [List.append_nil] at g4
  refine ⟨ns, [o.1], g1, g2, g3, g4, by rw [if_neg (by omega)]; rfl, ?_, fun more more' => ?_⟩
  ·intro y hy
   obtain rfl := List.mem_singleton.1 hy
   have := hO c
   omega
  ·have d1 : (q1.2.2 ++ more').getD s 0 = o.1 := by
    rw [g4]
    simp only [List.append_assoc, List.singleton_append]
    exact getD_mid (ho1 c)
   have hcl := cells_line k K (q1.2.1 ++ more) (q1.2.2 ++ more') s K.toNat (by omega) (by omega)
   rw [if_pos c, if_pos (by omega)] at hcl
   unfold expLead
   rw [if_pos c, e1, g7 more more', e3, d1]
   simp only
   rw [← List.append_assoc (lineT _ _ _ _ _ _ _), ← hcl]
   simp
 ·rw [if_neg c] at h1
  obtain rfl := Sum.inr.inj h1
  have k2 : k = 2 := by omega
  obtain ⟨ns, os, g1, g2, g3, g4, g5, g6, g7⟩ := cells_there (K := K) (s := s) hk K.toNat 0 _ _ _ q1 h2 (by omega) (fun hc => by have := ho2 hc; omega)
  refine ⟨ns, os, g1, g2, g3, g4, by rw [if_pos k2] at g5 ⊢; exact g5, g6, fun more more' => ?_⟩
  have hcl := cells_line k K (q1.2.1 ++ more) (q1.2.2 ++ more') s K.toNat (by omega) (by omega)
  rw [if_neg c, if_pos (by omega), List.nil_append] at hcl
  unfold expLead
  rw [if_neg c, hcl]
  have g7 := g7 more more'
  simp only at g7
  rw [g7, e3]
  simp

theorem rows_there {k K O N : Int} {b : List Int} (hk : k = 1 ∨ k = 2) (hK : 1 ≤ K) (hO : k = 1 -> O = 2) : ∀ (d s a : Nat) (nx' ou' : List Int) (q : Nat × List Int × List Int),
  rowsS k K O N b d a nx' ou' = .inr q -> nx'.length = s * K.toNat -> (k = 1 -> ou'.length = s) -> (k = 2 -> ou'.length = s * K.toNat) →
  ∃ ns os, q.2.1 = nx' ++ ns ∧ ns.length = d * K.toNat ∧ (∀ y ∈ ns, 0 ≤ y ∧ y < N) ∧ q.2.2 = ou' ++ os ∧ os.length = (if k = 2 then d * K.toNat else d) ∧ (∀ y ∈ os, 0 ≤ y ∧ y < O) ∧
   b.drop a = rowsT k K q.2.1 q.2.2 s d ++ b.drop q.1
 |0, s, a, nx', ou', q, h, hl, h1, h2 => by
  obtain rfl : (a, nx', ou') = q := by simp only [rowsS] at h; exact Sum.inr.inj h
  exact ⟨[], [], by simp, by simp, by simp, by simp, by simp, by simp, by simp [rowsT]⟩
 |d + 1, s, a, nx', ou', q, h, hl, h1, h2 => by
  simp only [rowsS] at h
  obtain ⟨p, h3, h4⟩ := bindR_ok h
  obtain ⟨ns, os, g1, g2, g3, g4, g5, g6, g7⟩ := row_there (s := s) hk hK hO h3 hl h1 h2
  have hm : (s + 1) * K.toNat = s * K.toNat + K.toNat := Nat.succ_mul _ _
  have hm' : (d + 1) * K.toNat = d * K.toNat + K.toNat := Nat.succ_mul _ _
  obtain ⟨ns', os', f1, f2, f3, f4, f5, f6, f7⟩ := rows_there hk hK hO d (s + 1) _ _ _ q h4 (by rw [g1, List.length_append]; omega)
   (fun c => by rw [g4, List.length_append, g5, if_neg (by omega), h1 c]) (fun c => by rw [g4, List.length_append, g5, if_pos c, h2 c]; omega)
  refine ⟨ns ++ ns', os ++ os', by rw [f1, g1, List.append_assoc], by rw [List.length_append]; omega, ?_, by rw [f4, g4, List.append_assoc], ?_, ?_, ?_⟩
  ·intro y hy
   rcases List.mem_append.1 hy with hy | hy
   ·exact g3 y hy
   ·exact f3 y hy
  ·rw [List.length_append, g5, f5]
   by_cases c : k = 2
   ·rw [if_pos c, if_pos c, if_pos c]; omega
   ·rw [if_neg c, if_neg c, if_neg c]; omega
  ·intro y hy
   rcases List.mem_append.1 hy with hy | hy
   ·exact g6 y hy
   ·exact f6 y hy
  ·have := g7 ns' os'
   rw [← f1, ← f4] at this
   rw [this, f7]
   simp only [rowsT, List.append_assoc]

theorem head_there {b : List Int} {h : Int × Int × Int × Int × Nat} (hh : headI b = .inr h) :
  (h.1 = 1 ∨ h.1 = 2) ∧ (1 ≤ h.2.1 ∧ h.2.1 ≤ 64) ∧ (1 ≤ h.2.2.1 ∧ h.2.2.1 ≤ 64) ∧ (h.1 = 1 -> h.2.2.1 = 2) ∧ (1 ≤ h.2.2.2.1 ∧ h.2.2.2.1 ≤ 1024) ∧ b = expHead h.1 h.2.1 h.2.2.1 h.2.2.2.1 ++ b.drop h.2.2.2.2 := by
 unfold headI at hh
 by_cases c : b[0]? = some 109
 ·rw [if_pos c] at hh
  obtain ⟨a0, w0, hh⟩ := bindR_ok hh
  obtain ⟨q1, n1, hh⟩ := bindR_ok hh
  obtain ⟨a1, w1, hh⟩ := bindR_ok hh
  obtain ⟨q2, n2, hh⟩ := bindR_ok hh
  obtain ⟨a2, w2, hh⟩ := bindR_ok hh
  obtain ⟨q3, n3, hh⟩ := bindR_ok hh
  obtain ⟨a3, w3, hh⟩ := bindR_ok hh
  obtain rfl := Sum.inr.inj hh
  have e0 := (wantS_ok w0).2
  obtain ⟨_, k1, k2, e1⟩ := numbS_there n1
  have e2 := (wantS_ok w1).2
  obtain ⟨_, k3, k4, e3⟩ := numbS_there n2
  have e4 := (wantS_ok w2).2
  obtain ⟨_, k5, k6, e5⟩ := numbS_there n3
  have e6 := (wantS_ok w3).2
  refine ⟨.inr rfl, ⟨k1, k2⟩, ⟨k3, k4⟩, fun h => by simp at h, ⟨k5, k6⟩, ?_⟩
  rw [List.drop_zero] at e0
  unfold expHead
  rw [if_neg (show ¬ (2 : Int) = 1 by decide)]
  calc b = _ := e0
   _ = _ := by rw [e1, e2, e3, e4, e5, e6]; simp
 ·rw [if_neg c] at hh
  obtain ⟨a0, w0, hh⟩ := bindR_ok hh
  obtain ⟨q1, n1, hh⟩ := bindR_ok hh
  obtain ⟨a1, w1, hh⟩ := bindR_ok hh
  obtain ⟨q3, n3, hh⟩ := bindR_ok hh
  obtain ⟨a3, w3, hh⟩ := bindR_ok hh
  obtain rfl := Sum.inr.inj hh
  have e0 := (wantS_ok w0).2
  obtain ⟨_, k1, k2, e1⟩ := numbS_there n1
  have e2 := (wantS_ok w1).2
  obtain ⟨_, k5, k6, e5⟩ := numbS_there n3
  have e6 := (wantS_ok w3).2
  refine ⟨.inl rfl, ⟨k1, k2⟩, ⟨show (1 : Int) ≤ 2 by decide, show (2 : Int) ≤ 64 by decide⟩, fun _ => rfl, ⟨k5, k6⟩, ?_⟩
  rw [List.drop_zero] at e0
  unfold expHead
  rw [if_pos rfl]
  calc b = _ := e0
   _ = _ := by rw [e1, e2, e5, e6]; simp

theorem read_there {b : List Int} {m : Int × Int × Int × Int × List Int × List Int} (h : readS b = .inr m) :
  Fine m.1 m.2.1 m.2.2.1 m.2.2.2.1 m.2.2.2.2.1 m.2.2.2.2.2 ∧ expS m.1 m.2.1 m.2.2.1 m.2.2.2.1 m.2.2.2.2.1 m.2.2.2.2.2 = b := by
 unfold readS at h
 obtain ⟨hd, h1, h⟩ := bindR_ok h
 obtain ⟨q, h2, h⟩ := bindR_ok h
 obtain ⟨f1, f2, f3, f4, f5, e1⟩ := head_there h1
 obtain ⟨ns, os, g1, g2, g3, g4, g5, g6, g7⟩ := rows_there (s := 0) f1 f2.1 f4 _ _ _ _ q h2 (by simp) (fun _ => rfl) (fun _ => by simp)
 by_cases c : q.1 < b.length
 ·rw [if_pos c] at h; cases h
 ·rw [if_neg c] at h
  obtain rfl := Sum.inr.inj h
  simp only [List.nil_append] at g1 g4
  simp only
  have hNK : ((hd.2.2.2.1.toNat * hd.2.1.toNat : Nat) : Int) = hd.2.2.2.1 * hd.2.1 := by
   rw [Int.natCast_mul, Int.toNat_of_nonneg (by omega), Int.toNat_of_nonneg (by omega)]
  refine ⟨⟨f1, f2, f3, f4, f5, ?_, ?_, ?_, ?_, ?_⟩, ?_⟩
  ·rw [g1, g2, hNK]
  ·intro k1
   rw [g4, g5, if_neg (by omega)]
   omega
  ·intro k2
   rw [g4, g5, if_pos k2, hNK]
  ·rw [g1]; exact g3
  ·rw [g4]; exact g6
  ·have hd0 : b.drop q.1 = [] := List.drop_of_length_le (by omega)
   rw [hd0, List.append_nil] at g7
   have hr := rowsT_eq hd.1 hd.2.1 q.2.1 q.2.2 hd.2.2.2.1.toNat 0
   simp only [expRows, List.nil_append, Nat.zero_add] at hr
   unfold expS
   rw [hr, ← g7, ← e1]

def FltR {α : Type} (b : List Int) (x : Rd α) : Prop := ∀ e, x = .inl e -> e.1 ≠ 0 ∧ 0 ≤ e.2 ∧ e.2 ≤ (b.length : Int)

theorem FltR.bind {α β : Type} {b : List Int} {x : Rd α} {f : α -> Rd β} (h : FltR b x) (hf : ∀ a, x = .inr a -> FltR b (f a)) : FltR b (bindR x f) := by
 intro e he
 cases x with
 |inl e' =>
  obtain rfl : e' = e := Sum.inl.inj he
  exact h e' rfl
 |inr a => exact hf a rfl e he

theorem flt_ok {α : Type} (b : List Int) (a : α) : FltR b (.inr a : Rd α) := fun e h => by cases h

theorem flt_want : ∀ {s b : List Int} {a : Nat}, a ≤ b.length -> FltR b (wantS s b a)
 |[], b, a, _ => flt_ok b a
 |x :: s, b, a, ha => by
  unfold wantS
  by_cases c : b[a]? = some x
  ·rw [if_pos c]
   exact flt_want (List.getElem?_eq_some_iff.1 c).1
  ·rw [if_neg c]
   intro e he
   cases he
   exact ⟨by simp, by simp, by simp; omega⟩

theorem flt_numb {lo hi kd : Int} (hkd : kd ≠ 0) {b : List Int} {a : Nat} (ha : a ≤ b.length) : FltR b (numbS lo hi kd b a) := by
 intro e he
 unfold numbS at he
 by_cases h1 : (numL (b.drop a)).2.2 ≠ 0
 ·rw [if_pos h1] at he
  cases he
  have := numL_le (b.drop a)
  rw [List.length_drop] at this
  exact ⟨h1, by simp; omega, by simp; omega⟩
 ·rw [if_neg h1] at he
  by_cases h2 : (numL (b.drop a)).1 < lo ∨ hi < (numL (b.drop a)).1
  ·rw [if_pos h2] at he
   cases he
   exact ⟨hkd, by simp, by simp; omega⟩
  ·rw [if_neg h2] at he
   cases he

theorem flt_cell {k O N : Int} {b : List Int} {x a : Nat} {nx ou : List Int} (ha : a ≤ b.length) : FltR b (cellS k O N b x a nx ou) ∧ ∀ q, cellS k O N b x a nx ou = .inr q -> q.1 ≤ b.length := by
 have l1 : ∀ a1, (if 0 < x ∨ k = 1 then wantS [32] b a else .inr a) = .inr a1 -> a1 ≤ b.length := by
  intro a1 h
  by_cases c : 0 < x ∨ k = 1
  ·rw [if_pos c] at h
   exact wantS_le h ha
  ·rw [if_neg c] at h
   obtain rfl := Sum.inr.inj h
   exact ha
 unfold cellS
 constructor
 ·refine FltR.bind ?_ fun a1 h1 => FltR.bind (flt_numb (by decide) (l1 a1 h1)) fun p h2 => ?_
  ·by_cases c : 0 < x ∨ k = 1
   ·rw [if_pos c]; exact flt_want ha
   ·rw [if_neg c]; exact flt_ok b a
  ·have := numbS_le h2 (l1 a1 h1)
   by_cases c : k = 2
   ·rw [if_pos c]
    exact FltR.bind (flt_want this) fun a2 h3 => FltR.bind (flt_numb (by decide) (wantS_le h3 this)) fun _ _ => flt_ok b _
   ·rw [if_neg c]
    exact flt_ok b _
 ·intro q h
  obtain ⟨a1, h1, h⟩ := bindR_ok h
  obtain ⟨p, h2, h⟩ := bindR_ok h
  have := numbS_le h2 (l1 a1 h1)
  by_cases c : k = 2
  ·rw [if_pos c] at h
   obtain ⟨a2, h3, h⟩ := bindR_ok h
   obtain ⟨o, h4, h⟩ := bindR_ok h
   obtain rfl := Sum.inr.inj h
   exact numbS_le h4 (wantS_le h3 this)
  ·rw [if_neg c] at h
   obtain rfl := Sum.inr.inj h
   exact this

theorem flt_cells {k O N : Int} {b : List Int} : ∀ (d x a : Nat) (nx ou : List Int), a ≤ b.length -> FltR b (cellsS k O N b d x a nx ou) ∧ ∀ q, cellsS k O N b d x a nx ou = .inr q -> q.1 ≤ b.length
 |0, x, a, nx, ou, ha => ⟨flt_ok b _, fun q h => by simp only [cellsS] at h; obtain rfl := Sum.inr.inj h; exact ha⟩
 |d + 1, x, a, nx, ou, ha => by
  obtain ⟨c1, c2⟩ := flt_cell (k := k) (O := O) (N := N) (x := x) (nx := nx) (ou := ou) ha
  simp only [cellsS]
  constructor
  ·exact FltR.bind c1 fun q h => (flt_cells d (x + 1) q.1 q.2.1 q.2.2 (c2 q h)).1
  ·intro q h
   obtain ⟨p, h1, h⟩ := bindR_ok h
   exact (flt_cells d (x + 1) p.1 p.2.1 p.2.2 (c2 p h1)).2 q h

theorem flt_row {k K O N : Int} {b : List Int} {a : Nat} {nx ou : List Int} (ha : a ≤ b.length) : FltR b (rowS k K O N b a nx ou) ∧ ∀ q, rowS k K O N b a nx ou = .inr q -> q.1 ≤ b.length := by
 have l1 : ∀ p, leadS k b a ou = .inr p -> p.1 ≤ b.length := by
  intro p h
  unfold leadS at h
  by_cases c : k = 1
  ·rw [if_pos c] at h
   obtain ⟨o, h1, h⟩ := bindR_ok h
   obtain rfl := Sum.inr.inj h
   exact numbS_le h1 ha
  ·rw [if_neg c] at h
   obtain rfl := Sum.inr.inj h
   exact ha
 unfold rowS
 constructor
 ·refine FltR.bind ?_ fun p h1 => FltR.bind (flt_cells _ _ _ _ _ (l1 p h1)).1 fun q h2 => FltR.bind (flt_want ((flt_cells _ _ _ _ _ (l1 p h1)).2 q h2)) fun _ _ => flt_ok b _
  unfold leadS
  by_cases c : k = 1
  ·rw [if_pos c]
   exact FltR.bind (flt_numb (by decide) ha) fun _ _ => flt_ok b _
  ·rw [if_neg c]
   exact flt_ok b _
 ·intro q h
  obtain ⟨p, h1, h⟩ := bindR_ok h
  obtain ⟨q1, h2, h⟩ := bindR_ok h
  obtain ⟨a2, h3, h⟩ := bindR_ok h
  obtain rfl := Sum.inr.inj h
  exact wantS_le h3 ((flt_cells _ _ _ _ _ (l1 p h1)).2 q1 h2)

theorem flt_rows {k K O N : Int} {b : List Int} : ∀ (d a : Nat) (nx ou : List Int), a ≤ b.length -> FltR b (rowsS k K O N b d a nx ou) ∧ ∀ q, rowsS k K O N b d a nx ou = .inr q -> q.1 ≤ b.length
 |0, a, nx, ou, ha => ⟨flt_ok b _, fun q h => by simp only [rowsS] at h; obtain rfl := Sum.inr.inj h; exact ha⟩
 |d + 1, a, nx, ou, ha => by
  obtain ⟨c1, c2⟩ := flt_row (k := k) (K := K) (O := O) (N := N) (nx := nx) (ou := ou) ha
  simp only [rowsS]
  constructor
  ·exact FltR.bind c1 fun q h => (flt_rows d q.1 q.2.1 q.2.2 (c2 q h)).1
  ·intro q h
   obtain ⟨p, h1, h⟩ := bindR_ok h
   exact (flt_rows d p.1 p.2.1 p.2.2 (c2 p h1)).2 q h

theorem flt_head (b : List Int) : FltR b (headI b) ∧ ∀ h, headI b = .inr h -> h.2.2.2.2 ≤ b.length := by
 unfold headI
 by_cases c : b[0]? = some 109
 ·rw [if_pos c]
  constructor
  ·exact FltR.bind (flt_want (Nat.zero_le _)) fun a0 h0 => FltR.bind (flt_numb (by decide) (wantS_le h0 (Nat.zero_le _))) fun q1 h1 => FltR.bind (flt_want (numbS_le h1 (wantS_le h0 (Nat.zero_le _)))) fun a1 h2 =>
    FltR.bind (flt_numb (by decide) (wantS_le h2 (numbS_le h1 (wantS_le h0 (Nat.zero_le _))))) fun q2 h3 => FltR.bind (flt_want (numbS_le h3 (wantS_le h2 (numbS_le h1 (wantS_le h0 (Nat.zero_le _)))))) fun a2 h4 =>
    FltR.bind (flt_numb (by decide) (wantS_le h4 (numbS_le h3 (wantS_le h2 (numbS_le h1 (wantS_le h0 (Nat.zero_le _))))))) fun q3 h5 => FltR.bind (flt_want (numbS_le h5 (wantS_le h4 (numbS_le h3 (wantS_le h2 (numbS_le h1 (wantS_le h0 (Nat.zero_le _)))))))) fun _ _ => flt_ok b _
  ·intro h hh
   obtain ⟨a0, w0, hh⟩ := bindR_ok hh
   obtain ⟨q1, n1, hh⟩ := bindR_ok hh
   obtain ⟨a1, w1, hh⟩ := bindR_ok hh
   obtain ⟨q2, n2, hh⟩ := bindR_ok hh
   obtain ⟨a2, w2, hh⟩ := bindR_ok hh
   obtain ⟨q3, n3, hh⟩ := bindR_ok hh
   obtain ⟨a3, w3, hh⟩ := bindR_ok hh
   obtain rfl := Sum.inr.inj hh
   exact wantS_le w3 (numbS_le n3 (wantS_le w2 (numbS_le n2 (wantS_le w1 (numbS_le n1 (wantS_le w0 (Nat.zero_le _)))))))
 ·rw [if_neg c]
  constructor
  ·exact FltR.bind (flt_want (Nat.zero_le _)) fun a0 h0 => FltR.bind (flt_numb (by decide) (wantS_le h0 (Nat.zero_le _))) fun q1 h1 => FltR.bind (flt_want (numbS_le h1 (wantS_le h0 (Nat.zero_le _)))) fun a1 h2 =>
    FltR.bind (flt_numb (by decide) (wantS_le h2 (numbS_le h1 (wantS_le h0 (Nat.zero_le _))))) fun q3 h5 => FltR.bind (flt_want (numbS_le h5 (wantS_le h2 (numbS_le h1 (wantS_le h0 (Nat.zero_le _)))))) fun _ _ => flt_ok b _
  ·intro h hh
   obtain ⟨a0, w0, hh⟩ := bindR_ok hh
   obtain ⟨q1, n1, hh⟩ := bindR_ok hh
   obtain ⟨a1, w1, hh⟩ := bindR_ok hh
   obtain ⟨q3, n3, hh⟩ := bindR_ok hh
   obtain ⟨a3, w3, hh⟩ := bindR_ok hh
   obtain rfl := Sum.inr.inj hh
   exact wantS_le w3 (numbS_le n3 (wantS_le w1 (numbS_le n1 (wantS_le w0 (Nat.zero_le _)))))

theorem flt_read (b : List Int) : FltR b (readS b) := by
 unfold readS
 refine FltR.bind (flt_head b).1 fun h hh => FltR.bind (flt_rows _ _ _ _ ((flt_head b).2 h hh)).1 fun q hq => ?_
 by_cases c : q.1 < b.length
 ·rw [if_pos c]
  intro e he
  cases he
  exact ⟨by simp, by simp, by simp; omega⟩
 ·rw [if_neg c]
  exact flt_ok b _

end Go.Ev
