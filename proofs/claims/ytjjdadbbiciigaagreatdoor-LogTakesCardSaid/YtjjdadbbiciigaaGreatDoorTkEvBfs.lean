/- Pairs of states, one after another; in plain lists. -/
import Derived.Test.YtjjdadbbiciigaaGreatDoorTkEvWord
namespace Go.Ev
set_option linter.unusedVariables false
set_option linter.unusedSimpArgs false

structure Duo where
 k : Int
 K : Int
 N : Int
 M : Int
 nx : List Int
 ou : List Int
 nx' : List Int
 ou' : List Int

abbrev PW := (Int × Int) × List Int

def Duo.nxt (D : Duo) (p : Int × Int) (x : Int) : Int × Int := (D.nx.getD (p.1 * D.K + x).toNat 0, D.nx'.getD (p.2 * D.K + x).toNat 0)
def Duo.sy (D : Duo) (p : Int × Int) (x : Int) : Bool := (D.k == 2) && (D.ou.getD (p.1 * D.K + x).toNat 0 != D.ou'.getD (p.2 * D.K + x).toNat 0)
def Duo.st (D : Duo) (p : Int × Int) : Bool := (D.k == 1) && (D.ou.getD p.1.toNat 0 != D.ou'.getD p.2.toNat 0)

structure Duo.Fine (D : Duo) : Prop where
 a : ∃ O, Go.Ev.Fine D.k D.K O D.N D.nx D.ou
 b : ∃ O, Go.Ev.Fine D.k D.K O D.M D.nx' D.ou'

def Duo.inn (D : Duo) (p : Int × Int) : Prop := (0 ≤ p.1 ∧ p.1 < D.N) ∧ (0 ≤ p.2 ∧ p.2 < D.M)

def known (L : List PW) (q : Int × Int) : Bool := L.any fun e => e.1.1 == q.1 && e.1.2 == q.2
theorem known_iff {L : List PW} {q : Int × Int} : known L q = true ↔ q ∈ L.map (·.1) := by
 unfold known
 rw [List.any_eq_true, List.mem_map]
 constructor
 ·rintro ⟨e, he, h⟩
  simp only [Bool.and_eq_true, beq_iff_eq] at h
  exact ⟨e, he, Prod.ext h.1 h.2⟩
 ·rintro ⟨e, he, rfl⟩
  exact ⟨e, he, by simp⟩

def pw0 : PW := ((0, 0), [])

def bfs (D : Duo) : Nat -> Nat -> Nat -> List PW -> Option (Bool × List Int)
 |0, _, _, _ => none
 |n + 1, i, x, L =>
  if (x : Int) < D.K then
   if D.sy (L.getD i pw0).1 x || D.st (D.nxt (L.getD i pw0).1 x) then some (true, (L.getD i pw0).2 ++ [(x : Int)])
   else if known L (D.nxt (L.getD i pw0).1 x) then bfs D n i (x + 1) L
   else bfs D n i (x + 1) (L ++ [(D.nxt (L.getD i pw0).1 x, (L.getD i pw0).2 ++ [(x : Int)])])
  else if i + 1 < L.length then bfs D n (i + 1) 0 L
  else some (false, [])

def Duo.fuel (D : Duo) : Nat := (D.N * D.M).toNat * (D.K.toNat + 1)

def searchS (D : Duo) (s : Int × Int) : Bool × List Int :=
 if D.st s then (true, []) else (bfs D D.fuel 0 0 [(s, [])]).getD (false, [])

structure Inv (D : Duo) (s : Int × Int) (L : List PW) : Prop where
 head : L.getD 0 pw0 = (s, [])
 pos : 0 < L.length
 inn : ∀ e ∈ L, D.inn e.1
 st : ∀ e ∈ L, D.st e.1 = false
 nd : (L.map (·.1)).Nodup
 len : ∀ j, j < L.length -> (L.getD j pw0).2.length ≤ j

theorem Inv.start {D : Duo} {s : Int × Int} (hs : D.inn s) (h : D.st s = false) : Inv D s [(s, [])] := by
 refine ⟨rfl, by simp, ?_, ?_, by simp, ?_⟩
 ·intro e he; rw [List.mem_singleton] at he; subst he; exact hs
 ·intro e he; rw [List.mem_singleton] at he; subst he; exact h
 ·intro j hj
  have : j = 0 := by simpa using hj
  subst this
  exact Nat.le_refl 0

theorem nxt_inn {D : Duo} (F : D.Fine) {p : Int × Int} (hp : D.inn p) {x : Int} (hx : 0 ≤ x ∧ x < D.K) : D.inn (D.nxt p x) := by
 obtain ⟨⟨O, A⟩, ⟨O', B⟩⟩ := F
 have h1 := idx_in hp.1 hx
 have h2 := idx_in hp.2 hx
 have e1 := A.fnx
 have e2 := B.fnx
 constructor
 ·show 0 ≤ D.nx.getD _ 0 ∧ D.nx.getD _ 0 < _
  rw [getD_of 0 (by omega)]
  exact A.fnxs _ (List.getElem_mem _)
 ·show 0 ≤ D.nx'.getD _ 0 ∧ D.nx'.getD _ 0 < _
  rw [getD_of 0 (by omega)]
  exact B.fnxs _ (List.getElem_mem _)

theorem getD_mem {α : Type} {l : List α} {i : Nat} {d : α} (h : i < l.length) : l.getD i d ∈ l := by
 rw [getD_of d h]; exact List.getElem_mem h

theorem getD_snoc {α : Type} (l : List α) (a d : α) (i : Nat) : (l ++ [a]).getD i d = if i < l.length then l.getD i d else if i = l.length then a else d := by
 simp only [List.getD_eq_getElem?_getD, List.getElem?_append]
 by_cases h : i < l.length
 ·simp [h]
 ·by_cases h2 : i = l.length
  ·subst h2; simp
  ·have : ¬ i - l.length < 1 := by omega
   have h3 : (i - l.length) ≠ 0 := by omega
   simp [h, h2, h3]

theorem Inv.push {D : Duo} {s : Int × Int} {L : List PW} (I : Inv D s L) (F : D.Fine) {i : Nat} (hi : i < L.length) {x : Int} (hx : 0 ≤ x ∧ x < D.K)
  (h1 : D.st (D.nxt (L.getD i pw0).1 x) = false) (h2 : known L (D.nxt (L.getD i pw0).1 x) = false) :
  Inv D s (L ++ [(D.nxt (L.getD i pw0).1 x, (L.getD i pw0).2 ++ [x])]) := by
 have hm : L.getD i pw0 ∈ L := getD_mem hi
 have hq : D.inn (D.nxt (L.getD i pw0).1 x) := nxt_inn F (I.inn _ hm) hx
 refine ⟨?_, by simp, ?_, ?_, ?_, ?_⟩
 ·have := I.pos
  rw [getD_snoc, if_pos this]; exact I.head
 ·intro e he
  rcases List.mem_append.1 he with he | he
  ·exact I.inn e he
  ·rw [List.mem_singleton] at he; subst he; exact hq
 ·intro e he
  rcases List.mem_append.1 he with he | he
  ·exact I.st e he
  ·rw [List.mem_singleton] at he; subst he; exact h1
 ·rw [List.map_append, List.nodup_append]
  refine ⟨I.nd, by simp, ?_⟩
  intro a ha b hb
  simp only [List.map_cons, List.map_nil, List.mem_singleton] at hb
  subst hb
  rintro rfl
  rw [known_iff.2 ha] at h2
  cases h2
 ·intro j hj
  rw [getD_snoc]
  split
  ·exact I.len j (by assumption)
  ·rename_i hn
   have : j = L.length := by
    rw [List.length_append] at hj
    simp at hj
    omega
   rw [if_pos this]
   have := I.len i hi
   show ((L.getD i pw0).2 ++ [x]).length ≤ j
   rw [List.length_append, List.length_singleton]
   omega

theorem nodup_le : ∀ (n : Nat) (l : List Nat), l.Nodup -> (∀ x ∈ l, x < n) -> l.length ≤ n
 |0, l, _, h => by
  cases l with
  |nil => simp
  |cons a t => exact absurd (h a (by simp)) (by omega)
 |n + 1, l, hn, h => by
  have h1 := nodup_le n (l.erase n) (hn.erase n) (fun x hx => by
   have h2 := h x (List.mem_of_mem_erase hx)
   have h3 : x ≠ n := fun e => by
    subst e
    exact (List.Nodup.not_mem_erase hn) hx
   omega)
  by_cases hm : n ∈ l
  ·rw [List.length_erase_of_mem hm] at h1
   omega
  ·rw [List.erase_of_not_mem hm] at h1
   omega

theorem pair_in {D : Duo} {p : Int × Int} (h : D.inn p) : 0 ≤ p.1 * D.M + p.2 ∧ p.1 * D.M + p.2 < D.N * D.M := by
 have := idx_in h.1 h.2
 omega
theorem pair_inj {M a b c d : Int} (h1 : 0 ≤ b ∧ b < M) (h2 : 0 ≤ d ∧ d < M) (h : a * M + b = c * M + d) : a = c ∧ b = d := by
 have e1 : (a * M + b) / M = a := by rw [Int.add_comm, Int.add_mul_ediv_right _ _ (by omega), Int.ediv_eq_zero_of_lt h1.1 h1.2]; omega
 have e2 : (c * M + d) / M = c := by rw [Int.add_comm, Int.add_mul_ediv_right _ _ (by omega), Int.ediv_eq_zero_of_lt h2.1 h2.2]; omega
 have : a = c := by rw [← e1, ← e2, h]
 subst this
 exact ⟨rfl, by omega⟩

theorem mul_most {N M : Int} (h1 : 1 ≤ N ∧ N ≤ 1024) (h2 : 1 ≤ M ∧ M ≤ 1024) : 1 ≤ N * M ∧ N * M ≤ 1048576 := by
 have e1 : N * M ≤ 1024 * M := Int.mul_le_mul_of_nonneg_right h1.2 (by omega)
 have e2 : 1 * M ≤ N * M := Int.mul_le_mul_of_nonneg_right h1.1 (by omega)
 omega

theorem Inv.most {D : Duo} {s : Int × Int} {L : List PW} (I : Inv D s L) : L.length ≤ (D.N * D.M).toNat := by
 have h := nodup_le (D.N * D.M).toNat (L.map fun e => (e.1.1 * D.M + e.1.2).toNat) (by
  have : (L.map fun e => (e.1.1 * D.M + e.1.2).toNat) = (L.map (·.1)).map fun p => (p.1 * D.M + p.2).toNat := by simp
  rw [this]
  have hall : ∀ p ∈ L.map (·.1), D.inn p := fun p hp => by
   obtain ⟨e, he, rfl⟩ := List.mem_map.1 hp
   exact I.inn e he
  have nd := I.nd
  generalize L.map (·.1) = l at hall nd
  induction l with
  |nil => simp
  |cons a t ih =>
   rw [List.nodup_cons] at nd
   rw [List.map_cons, List.nodup_cons]
   refine ⟨?_, ih (fun p hp => hall p (by simp [hp])) nd.2⟩
   intro hm
   obtain ⟨b, hb, e⟩ := List.mem_map.1 hm
   have ha := hall a (by simp)
   have hb' := hall b (by simp [hb])
   have p1 := pair_in ha
   have p2 := pair_in hb'
   have := pair_inj (M := D.M) hb'.2 ha.2 (show b.1 * D.M + b.2 = a.1 * D.M + a.2 by omega)
   exact nd.1 (by rw [show a = b from Prod.ext this.1.symm this.2.symm]; exact hb)) (by
  intro x hx
  obtain ⟨e, he, rfl⟩ := List.mem_map.1 hx
  have := pair_in (I.inn e he)
  omega)
 simpa using h

theorem bfs_ends {D : Duo} {s : Int × Int} (F : D.Fine) : ∀ (n i x : Nat) (L : List PW), Inv D s L -> i < L.length -> x ≤ D.K.toNat →
  ((D.N * D.M).toNat - i - 1) * (D.K.toNat + 1) + (D.K.toNat - x) < n -> ∃ r, bfs D n i x L = some r
 |0, _, _, _, _, _, _, h => absurd h (by omega)
 |n + 1, i, x, L, I, hi, hx, h => by
  obtain ⟨O, A⟩ := F.a
  have hK := A.fK
  unfold bfs
  by_cases c : (x : Int) < D.K
  ·rw [if_pos c]
   cases h1 : D.sy (L.getD i pw0).1 x || D.st (D.nxt (L.getD i pw0).1 x) with
   |true => exact ⟨_, rfl⟩
   |false =>
    rw [Bool.or_eq_false_iff] at h1
    cases h2 : known L (D.nxt (L.getD i pw0).1 x) with
    |true => exact bfs_ends F n i (x + 1) L I hi (by omega) (by omega)
    |false => exact bfs_ends F n i (x + 1) _ (I.push F hi (by omega) h1.2 h2) (by simp; omega) (by omega) (by omega)
  ·rw [if_neg c]
   by_cases h3 : i + 1 < L.length
   ·rw [if_pos h3]
    refine bfs_ends F n (i + 1) 0 L I h3 (by omega) ?_
    have := I.most
    have e : (D.N * D.M).toNat - i - 1 = ((D.N * D.M).toNat - (i + 1) - 1) + 1 := by omega
    rw [e, Nat.succ_mul] at h
    omega
   ·rw [if_neg h3]
    exact ⟨_, rfl⟩

theorem searchS_run {D : Duo} (F : D.Fine) {s : Int × Int} (hs : D.inn s) (h : D.st s = false) : bfs D D.fuel 0 0 [(s, [])] = some (searchS D s) := by
 have I := Inv.start hs h
 obtain ⟨r, hr⟩ := bfs_ends F D.fuel 0 0 _ I (by simp) (by omega) (by
  have := I.most
  unfold Duo.fuel
  have e : (D.N * D.M).toNat = ((D.N * D.M).toNat - 0 - 1) + 1 := by
   simp at this
   omega
  generalize hm : (D.N * D.M).toNat - 0 - 1 = m at *
  rw [e, Nat.succ_mul]
  omega)
 unfold searchS
 rw [if_neg (by rw [h]; simp), hr]
 rfl

theorem bfs_len {D : Duo} {s : Int × Int} (F : D.Fine) : ∀ (n i x : Nat) (L : List PW) (r : Bool × List Int), Inv D s L -> i < L.length -> bfs D n i x L = some r -> r.2.length ≤ (D.N * D.M).toNat
 |0, _, _, _, _, _, _, h => by cases h
 |n + 1, i, x, L, r, I, hi, h => by
  have hm := I.most
  have hl := I.len i hi
  unfold bfs at h
  by_cases c : (x : Int) < D.K
  ·rw [if_pos c] at h
   cases h1 : D.sy (L.getD i pw0).1 x || D.st (D.nxt (L.getD i pw0).1 x) with
   |true =>
    rw [h1, if_pos rfl] at h
    cases h
    show ((L.getD i pw0).2 ++ [(x : Int)]).length ≤ _
    rw [List.length_append, List.length_singleton]
    omega
   |false =>
    rw [h1, if_neg (by decide)] at h
    rw [Bool.or_eq_false_iff] at h1
    cases h2 : known L (D.nxt (L.getD i pw0).1 x) with
    |true => rw [h2, if_pos rfl] at h; exact bfs_len F n i (x + 1) L r I hi h
    |false => rw [h2, if_neg (by decide)] at h; exact bfs_len F n i (x + 1) _ r (I.push F hi ⟨by omega, c⟩ h1.2 h2) (by simp; omega) h
  ·rw [if_neg c] at h
   by_cases h3 : i + 1 < L.length
   ·rw [if_pos h3] at h
    exact bfs_len F n (i + 1) 0 L r I h3 h
   ·rw [if_neg h3] at h
    cases h
    exact Nat.zero_le _

theorem searchS_len {D : Duo} (F : D.Fine) {s : Int × Int} (hs : D.inn s) : (searchS D s).2.length ≤ (D.N * D.M).toNat := by
 cases h : D.st s with
 |true =>
  unfold searchS
  rw [if_pos h]
  exact Nat.zero_le _
 |false => exact bfs_len F _ _ _ _ _ (Inv.start hs h) (by simp) (searchS_run F hs h)
theorem searchS_short {D : Duo} (F : D.Fine) {s : Int × Int} (hs : D.inn s) : short (searchS D s).2 := by
 have h1 := searchS_len F hs
 obtain ⟨_, A⟩ := F.a
 obtain ⟨_, B⟩ := F.b
 have := mul_most A.fN B.fN
 unfold short
 omega

/-! ### The way back, through a map -/

def backF (o : List ((Int × Int) × ((Int × Int) × Int))) (s : Int × Int) : Nat -> Int × Int -> Option (List Int)
 |0, _ => none
 |n + 1, q => if q = s then some [] else
  match mfind (.pr (.int .i64) (.int .i64)) (.pr (.pr (.int .i64) (.int .i64)) (.int .i64)) q o with
  |some (p, x) => (backF o s n p).map (· ++ [x])
  |none => none

abbrev tP : Ty := .pr (.int .i64) (.int .i64)
abbrev tV : Ty := .pr (.pr (.int .i64) (.int .i64)) (.int .i64)
abbrev Came := List ((Int × Int) × ((Int × Int) × Int))

theorem eqP (x y : Int × Int) : eqS tP x y = decide (x = y) := by
 show (x.1 == y.1 && x.2 == y.2) = _
 rw [Bool.eq_iff_iff]
 simp [Prod.ext_iff]

theorem mfind_snoc_old {o : Came} {q : Int × Int} {v : (Int × Int) × Int} {e : (Int × Int) × ((Int × Int) × Int)} (h : mfind tP tV q o = some v) : mfind tP tV q (o ++ [e]) = some v := by
 induction o with
 |nil => cases h
 |cons a t ih =>
  rw [List.cons_append]
  unfold mfind at h ⊢
  cases hc : eqS tP q a.1 with
  |true => rw [hc] at h; exact h
  |false => rw [hc] at h; exact ih h
theorem mfind_none {o : Came} {q : Int × Int} (h : q ∉ o.map (·.1)) : mfind tP tV q o = none := by
 induction o with
 |nil => rfl
 |cons a t ih =>
  simp only [List.map_cons, List.mem_cons, not_or] at h
  unfold mfind
  rw [eqP, decide_eq_false h.1]
  exact ih h.2
theorem mfind_some {o : Came} {q : Int × Int} (h : q ∈ o.map (·.1)) : ∃ v, mfind tP tV q o = some v := by
 induction o with
 |nil => simp at h
 |cons a t ih =>
  unfold mfind
  by_cases c : q = a.1
  ·rw [eqP, decide_eq_true c]; exact ⟨_, rfl⟩
  ·rw [eqP, decide_eq_false c]
   simp only [List.map_cons, List.mem_cons] at h
   exact ih (h.resolve_left c)
theorem mfind_snoc_new {o : Came} {q : Int × Int} {v : (Int × Int) × Int} (h : q ∉ o.map (·.1)) : mfind tP tV q (o ++ [(q, v)]) = some v := by
 induction o with
 |nil =>
  show mfind tP tV q [(q, v)] = _
  unfold mfind
  rw [eqP, decide_eq_true rfl]
 |cons a t ih =>
  simp only [List.map_cons, List.mem_cons, not_or] at h
  rw [List.cons_append]
  unfold mfind
  rw [eqP, decide_eq_false h.1]
  exact ih h.2
theorem mput_new {o : Came} {q : Int × Int} {v : (Int × Int) × Int} (h : q ∉ o.map (·.1)) : mput tP tV q v o = o ++ [(q, v)] := by
 induction o with
 |nil => rfl
 |cons a t ih =>
  simp only [List.map_cons, List.mem_cons, not_or] at h
  unfold mput
  rw [eqP, decide_eq_false h.1]
  show a :: mput tP tV q v t = _
  rw [ih h.2]
  rfl

theorem backF_more {o : Came} {s : Int × Int} {e : (Int × Int) × ((Int × Int) × Int)} : ∀ (n : Nat) (q : Int × Int) (w : List Int), backF o s n q = some w -> backF (o ++ [e]) s n q = some w
 |0, _, _, h => by cases h
 |n + 1, q, w, h => by
  unfold backF at h ⊢
  by_cases c : q = s
  ·rw [if_pos c] at h ⊢; exact h
  ·rw [if_neg c] at h ⊢
   cases hf : mfind tP tV q o with
   |none => simp only [hf] at h; cases h
   |some v =>
    rw [show mfind (.pr (.int .i64) (.int .i64)) (.pr (.pr (.int .i64) (.int .i64)) (.int .i64)) q (o ++ [e]) = some v from mfind_snoc_old hf]
    rw [show mfind (.pr (.int .i64) (.int .i64)) (.pr (.pr (.int .i64) (.int .i64)) (.int .i64)) q o = some v from hf] at h
    obtain ⟨p, x⟩ := v
    dsimp only at h ⊢
    cases hb : backF o s n p with
    |none => rw [hb] at h; cases h
    |some u => rw [hb] at h; rw [backF_more n p u hb]; exact h
theorem backF_mono {o : Came} {s : Int × Int} : ∀ (n : Nat) (q : Int × Int) (w : List Int), backF o s n q = some w -> backF o s (n + 1) q = some w
 |0, _, _, h => by cases h
 |n + 1, q, w, h => by
  unfold backF at h ⊢
  by_cases c : q = s
  ·rw [if_pos c] at h ⊢; exact h
  ·rw [if_neg c] at h ⊢
   cases hf : mfind (.pr (.int .i64) (.int .i64)) (.pr (.pr (.int .i64) (.int .i64)) (.int .i64)) q o with
   |none => rw [hf] at h; cases h
   |some v =>
    rw [hf] at h
    obtain ⟨p, x⟩ := v
    dsimp only at h ⊢
    cases hb : backF o s n p with
    |none => rw [hb] at h; cases h
    |some u => rw [hb] at h; rw [backF_mono n p u hb]; exact h
structure Ways (s : Int × Int) (o : Came) (L : List PW) : Prop where
 keys : o.map (·.1) = L.map (·.1)
 back : ∀ e ∈ L, backF o s L.length e.1 = some e.2
 first : s ∈ o.map (·.1)

theorem Ways.start (s : Int × Int) (v : (Int × Int) × Int) : Ways s [(s, v)] [(s, [])] := by
 refine ⟨rfl, ?_, by simp⟩
 intro e he
 rw [List.mem_singleton] at he
 subst he
 show backF _ s 1 s = _
 unfold backF
 rw [if_pos rfl]

theorem Ways.push {s : Int × Int} {o : Came} {L : List PW} (W : Ways s o L) {e : PW} (he : e ∈ L) {q : Int × Int} (hq : known L q = false) (x : Int) :
  Ways s (o ++ [(q, (e.1, x))]) (L ++ [(q, e.2 ++ [x])]) := by
 have hn : q ∉ o.map (·.1) := by
  rw [W.keys]
  intro h
  rw [known_iff.2 h] at hq
  cases hq
 refine ⟨by simp [W.keys], ?_, ?_⟩
 ·intro f hf
  rw [List.length_append]
  rcases List.mem_append.1 hf with hf | hf
  ·exact backF_mono _ _ _ (backF_more _ _ _ (W.back f hf))
  ·rw [List.mem_singleton] at hf
   subst hf
   show backF _ s (L.length + 1) q = _
   unfold backF
   rw [if_neg (fun c => hn (by rw [c]; exact W.first)), show mfind (.pr (.int .i64) (.int .i64)) (.pr (.pr (.int .i64) (.int .i64)) (.int .i64)) q (o ++ [(q, (e.1, x))]) = some (e.1, x) from mfind_snoc_new hn]
   dsimp only
   rw [backF_more _ _ _ (W.back e he)]
   rfl
 ·rw [List.map_append]
  exact List.mem_append_left _ W.first

theorem mhas_known {s : Int × Int} {o : Came} {L : List PW} (W : Ways s o L) (q : Int × Int) : mhas tP tV o q = known L q := by
 unfold mhas
 cases h : known L q with
 |true =>
  obtain ⟨v, hv⟩ := mfind_some (o := o) (by rw [W.keys]; exact known_iff.1 h)
  rw [hv]; rfl
 |false =>
  rw [mfind_none (o := o) (by
   rw [W.keys]
   intro hm
   rw [known_iff.2 hm] at h
   cases h)]
  rfl

end Go.Ev
