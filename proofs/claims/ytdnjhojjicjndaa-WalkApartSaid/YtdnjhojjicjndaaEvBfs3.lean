/- The first word that tells apart is not long. -/
import Derived.Test.YtdnjhojjicjndaaEvBfs2
namespace Go.Ev
set_option linter.unusedVariables false
set_option linter.unusedSimpArgs false

theorem filter_less {α : Type} {p q : α → Bool} : ∀ {l : List α}, (∀ x ∈ l, p x = true → q x = true) → (l.filter p).length ≤ (l.filter q).length ∧ ((∃ x ∈ l, q x = true ∧ p x = false) → (l.filter p).length < (l.filter q).length)
  | [], _ => ⟨Nat.le_refl _, fun ⟨x, hx, _⟩ => by cases hx⟩
  | a :: l, h => by
    have ih := filter_less (l := l) fun x hx => h x (by simp [hx])
    have ha := h a (by simp)
    cases hp : p a with
    | true =>
      rw [List.filter_cons_of_pos hp, List.filter_cons_of_pos (ha hp)]
      refine ⟨by simp only [List.length_cons]; omega, fun ⟨x, hx, h1, h2⟩ => ?_⟩
      rcases List.mem_cons.1 hx with rfl | hx
      · rw [hp] at h2; cases h2
      · have := ih.2 ⟨x, hx, h1, h2⟩
        simp only [List.length_cons]
        omega
    | false =>
      rw [List.filter_cons_of_neg (by rw [hp]; decide)]
      cases hq : q a with
      | true =>
        rw [List.filter_cons_of_pos hq]
        exact ⟨by simp only [List.length_cons]; omega, fun _ => by simp only [List.length_cons]; omega⟩
      | false =>
        rw [List.filter_cons_of_neg (by rw [hq]; decide)]
        refine ⟨ih.1, fun ⟨x, hx, h1, h2⟩ => ?_⟩
        rcases List.mem_cons.1 hx with rfl | hx
        · rw [hq] at h1; cases h1
        · exact ih.2 ⟨x, hx, h1, h2⟩

/-- The least that is alike. -/
theorem least {P : Nat → Prop} : ∀ n, P n → ∃ m, m ≤ n ∧ P m ∧ ∀ i, i < m → ¬ P i := by
  intro n
  induction n using Nat.strongRecOn with
  | _ n ih =>
    intro h
    by_cases c : ∃ i, i < n ∧ P i
    · obtain ⟨i, h1, h2⟩ := c
      obtain ⟨m, h3, h4⟩ := ih i h1 h2
      exact ⟨m, by omega, h4⟩
    · exact ⟨n, Nat.le_refl n, h, fun i hi hp => c ⟨i, hi, hp⟩⟩

open Classical in
/-- How many classes. -/
noncomputable def reps (n : Nat) (E : Nat → Nat → Prop) : Nat := ((List.range n).filter fun i => decide (∀ j, j < i → ¬ E j i)).length

theorem reps_less {n : Nat} {E F : Nat → Nat → Prop} (es : ∀ a b, E a b → E b a) (et : ∀ a b c, E a b → E b c → E a c) (fr : ∀ a, F a a) (fs : ∀ a b, F a b → F b a) (ft : ∀ a b c, F a b → F b c → F a c)
    (h : ∀ a b, F a b → E a b) {a b : Nat} (ha : a < n) (hb : b < n) (hab : E a b) (hn : ¬ F a b) : reps n E < reps n F := by
  classical
  unfold reps
  refine (filter_less (fun x _ hp => ?_)).2 ?_
  · have := of_decide_eq_true hp
    exact decide_eq_true fun j hj hf => this j hj (h _ _ hf)
  · obtain ⟨a', a1, a2, a3⟩ := least (P := fun i => F i a) a (fr a)
    obtain ⟨b', b1, b2, b3⟩ := least (P := fun i => F i b) b (fr b)
    have hE : E a' b' := et _ _ _ (h _ _ a2) (et _ _ _ hab (es _ _ (h _ _ b2)))
    rcases Nat.lt_trichotomy a' b' with g | g | g
    · refine ⟨b', List.mem_range.2 (by omega), decide_eq_true fun j hj hf => b3 j hj (ft _ _ _ hf b2), decide_eq_false fun hc => hc a' g hE⟩
    · subst g
      exact absurd (ft _ _ _ (fs _ _ a2) b2) hn
    · refine ⟨a', List.mem_range.2 (by omega), decide_eq_true fun j hj hf => a3 j hj (ft _ _ _ hf a2), decide_eq_false fun hc => hc b' g (es _ _ hE)⟩

theorem reps_most {n : Nat} {E : Nat → Nat → Prop} : reps n E ≤ n := by
  classical
  unfold reps
  exact Nat.le_trans (List.length_filter_le _ _) (by rw [List.length_range]; exact Nat.le_refl _)
theorem reps_pos {n : Nat} {E : Nat → Nat → Prop} (h : 0 < n) : 0 < reps n E := by
  classical
  unfold reps
  exact List.length_pos_of_mem (List.mem_filter.2 ⟨List.mem_range.2 h, decide_eq_true fun j hj => absurd hj (by omega)⟩)

theorem chain {n : Nat} (hn : 0 < n) {E : Nat → Nat → Nat → Prop} (er : ∀ j a, E j a a) (es : ∀ j a b, E j a b → E j b a) (et : ∀ j a b c, E j a b → E j b c → E j a c) (h : ∀ j a b, E (j + 1) a b → E j a b) :
    ∀ l : Nat, (∀ j, j < l → ∃ a b, a < n ∧ b < n ∧ E j a b ∧ ¬ E (j + 1) a b) → l + 1 ≤ reps n (E l)
  | 0, _ => reps_pos hn
  | l + 1, hl => by
    have ih := chain hn er es et h l fun j hj => hl j (by omega)
    obtain ⟨a, b, h1, h2, h3, h4⟩ := hl l (by omega)
    have := reps_less (n := n) (es l) (et l) (er (l + 1)) (es (l + 1)) (et (l + 1)) (h l) h1 h2 h3 h4
    omega

/-! ### The words -/

theorem syP_app (D : Duo) : ∀ (u v : List Int) (p : Int × Int), D.syP p (u ++ v) = (D.syP p u || D.syP (D.go p u) v)
  | [], v, p => by
    show D.syP p v = (false || D.syP p v)
    rw [Bool.false_or]
  | x :: u, v, p => by
    show (D.sy p x || D.syP (D.nxt p x) (u ++ v)) = ((D.sy p x || D.syP (D.nxt p x) u) || D.syP (D.go (D.nxt p x) u) v)
    rw [syP_app D u v, Bool.or_assoc]
theorem tel_app (D : Duo) (u v : List Int) (p : Int × Int) : D.tel p (u ++ v) = (D.syP p u || D.tel (D.go p u) v) := by
  unfold Duo.tel
  rw [syP_app, Bool.or_assoc]
  unfold Duo.go
  rw [List.foldl_append]

theorem go_inn {D : Duo} (F : D.Fine) : ∀ (u : List Int) (p : Int × Int), D.inn p → validW D.K u → D.inn (D.go p u)
  | [], p, hp, _ => hp
  | x :: u, p, hp, hv => go_inn F u (D.nxt p x) (nxt_inn F hp (hv x (by simp))) fun z hz => hv z (by simp [hz])

/-- A shorter word has a smaller number. -/
theorem rank_short {k : Int} (hk : 1 ≤ k) {a b : List Int} (ha : validW k a) (hb : validW k b) (h : a.length < b.length) : rankS k a < rankS k b := by
  have h1 := rank_range hk a ha
  have h2 := rank_range hk b hb
  have h3 := lo_mono hk (show a.length + 1 ≤ b.length by omega)
  omega

/-- Two that are the first told apart by so many symbols. -/
theorem first_levels {D : Duo} (F : D.Fine) {s : Int × Int} (hs : D.inn s) {w : List Int} (hv : validW D.K w) (ht : D.tel s w = true) (hm : ∀ u, validW D.K u → D.tel s u = true → rankS D.K w ≤ rankS D.K u) (j : Nat) (hj : j < w.length) :
    ∃ p, D.inn p ∧ (∀ v, validW D.K v → v.length ≤ j → D.tel p v = false) ∧ ∃ v, validW D.K v ∧ v.length ≤ j + 1 ∧ D.tel p v = true := by
  obtain ⟨O, A⟩ := F.a
  have hK := A.fK
  have hu : validW D.K (w.take (w.length - (j + 1))) := fun x hx => hv x (List.mem_of_mem_take hx)
  have hd : validW D.K (w.drop (w.length - (j + 1))) := fun x hx => hv x (List.mem_of_mem_drop hx)
  have hlt : (w.take (w.length - (j + 1))).length = w.length - (j + 1) := by rw [List.length_take]; omega
  have short : ∀ u, validW D.K u → u.length < w.length → D.tel s u = false := fun u h1 h2 => by
    cases h3 : D.tel s u with
    | false => rfl
    | true =>
      have := hm u h1 h3
      have := rank_short (k := D.K) (by omega) h1 hv h2
      omega
  have hsy : D.syP s (w.take (w.length - (j + 1))) = false := by
    have := short _ hu (by omega)
    unfold Duo.tel at this
    rw [Bool.or_eq_false_iff] at this
    exact this.1
  refine ⟨D.go s (w.take (w.length - (j + 1))), go_inn F _ _ hs hu, ?_, w.drop (w.length - (j + 1)), hd, by rw [List.length_drop]; omega, ?_⟩
  · intro v h1 h2
    have := short (w.take (w.length - (j + 1)) ++ v) (fun x hx => by
      rcases List.mem_append.1 hx with hx | hx
      · exact hu x hx
      · exact h1 x hx) (by rw [List.length_append]; omega)
    rw [tel_app, hsy, Bool.false_or] at this
    exact this
  · have e : w.take (w.length - (j + 1)) ++ w.drop (w.length - (j + 1)) = w := List.take_append_drop _ _
    rw [← e, tel_app, hsy, Bool.false_or] at ht
    exact ht

/-- What is said from a state of either machine. -/
def Duo.out (D : Duo) (a : Nat) (v : List Int) : List Int := if a < D.N.toNat then (endS D.k D.K D.nx D.ou (a : Int) v).2 else (endS D.k D.K D.nx' D.ou' ((a : Int) - D.N) v).2

theorem first_short {D : Duo} (F : D.Fine) {s : Int × Int} (hs : D.inn s) {w : List Int} (hv : validW D.K w) (ht : D.tel s w = true) (hm : ∀ u, validW D.K u → D.tel s u = true → rankS D.K w ≤ rankS D.K u) : (w.length : Int) < D.N + D.M := by
  obtain ⟨O, A⟩ := F.a
  obtain ⟨O', B⟩ := F.b
  have hN := A.fN
  have hM := B.fN
  have c := chain (n := D.N.toNat + D.M.toNat) (by omega) (E := fun j a b => ∀ v, validW D.K v → v.length ≤ j → D.out a v = D.out b v)
    (fun _ _ _ _ _ => rfl) (fun _ _ _ h v h1 h2 => (h v h1 h2).symm) (fun _ _ _ _ h g v h1 h2 => (h v h1 h2).trans (g v h1 h2)) (fun _ _ _ h v h1 h2 => h v h1 (by omega)) w.length (fun j hj => by
      obtain ⟨p, hp, h1, v, h2, h3, h4⟩ := first_levels F hs hv ht hm j hj
      have e1 : ∀ v, D.out p.1.toNat v = (endS D.k D.K D.nx D.ou p.1 v).2 := fun v => by
        have := hp.1
        unfold Duo.out
        rw [if_pos (by omega), Int.toNat_of_nonneg this.1]
      have e2 : ∀ v, D.out (D.N.toNat + p.2.toNat) v = (endS D.k D.K D.nx' D.ou' p.2 v).2 := fun v => by
        have := hp.2
        unfold Duo.out
        rw [if_neg (by omega), show ((D.N.toNat + p.2.toNat : Nat) : Int) - D.N = p.2 by omega]
      refine ⟨p.1.toNat, D.N.toNat + p.2.toNat, by have := hp.1; omega, by have := hp.2; omega, fun u g1 g2 => ?_, fun hc => ?_⟩
      · rw [e1, e2]
        exact (end_tel A.fk p u).2 (h1 u g1 g2)
      · have := hc v h2 h3
        rw [e1, e2] at this
        rw [(end_tel A.fk p v).1 this] at h4
        cases h4)
  have := reps_most (n := D.N.toNat + D.M.toNat) (E := fun a b => ∀ v, validW D.K v → v.length ≤ w.length → D.out a v = D.out b v)
  omega

/-- In one machine. -/
theorem first_shorter {D : Duo} (F : D.Fine) (e0 : D.M = D.N) (e1 : D.nx' = D.nx) (e2 : D.ou' = D.ou) {s : Int × Int} (hs : D.inn s) {w : List Int} (hv : validW D.K w) (ht : D.tel s w = true) (hm : ∀ u, validW D.K u → D.tel s u = true → rankS D.K w ≤ rankS D.K u) : (w.length : Int) < D.N := by
  obtain ⟨O, A⟩ := F.a
  have hN := A.fN
  have c := chain (n := D.N.toNat) (by omega) (E := fun j a b => ∀ v, validW D.K v → v.length ≤ j → (endS D.k D.K D.nx D.ou (a : Int) v).2 = (endS D.k D.K D.nx D.ou (b : Int) v).2)
    (fun _ _ _ _ _ => rfl) (fun _ _ _ h v h1 h2 => (h v h1 h2).symm) (fun _ _ _ _ h g v h1 h2 => (h v h1 h2).trans (g v h1 h2)) (fun _ _ _ h v h1 h2 => h v h1 (by omega)) w.length (fun j hj => by
      obtain ⟨p, hp, h1, v, h2, h3, h4⟩ := first_levels F hs hv ht hm j hj
      have hp1 := hp.1
      have hp2 := hp.2
      have g1 : ((p.1.toNat : Nat) : Int) = p.1 := Int.toNat_of_nonneg hp1.1
      have g2 : ((p.2.toNat : Nat) : Int) = p.2 := Int.toNat_of_nonneg hp2.1
      refine ⟨p.1.toNat, p.2.toNat, by omega, by omega, fun u k1 k2 => ?_, fun hc => ?_⟩
      · have := (end_tel A.fk p u).2 (h1 u k1 k2)
        rw [e1, e2] at this
        rw [g1, g2]
        exact this
      · have := hc v h2 h3
        rw [g1, g2] at this
        rw [(end_tel A.fk p v).1 (by rw [e1, e2]; exact this)] at h4
        cases h4)
  have := reps_most (n := D.N.toNat) (E := fun a b => ∀ v, validW D.K v → v.length ≤ w.length → (endS D.k D.K D.nx D.ou (a : Int) v).2 = (endS D.k D.K D.nx D.ou (b : Int) v).2)
  omega

end Go.Ev
