/- Drawings tell machines apart, and have the lines one counts. -/
import Derived.Test.YtghgpadmkdfanaaDoorEvDot
namespace Go.Ev
set_option linter.unusedVariables false
set_option linter.unusedSimpArgs false

/-! ### Bytes beyond a line break -/

def gt10 (l : List Int) : Prop := ∀ x ∈ l, 11 ≤ x
instance (l : List Int) : Decidable (gt10 l) := by unfold gt10; infer_instance
theorem gt10_app {a b : List Int} (h1 : gt10 a) (h2 : gt10 b) : gt10 (a ++ b) := fun x hx => (List.mem_append.1 hx).elim (h1 x) (h2 x)

theorem itoa_dig {n : Int} (h : 0 ≤ n ∧ n < 10000) : ∀ x ∈ itoaI n, 48 ≤ x ∧ x ≤ 57 := by
  intro x hx
  by_cases c1 : n < 10
  · rw [itoaI_one h.1 c1] at hx
    simp only [List.mem_cons, List.not_mem_nil, or_false] at hx
    omega
  by_cases c2 : n < 100
  · rw [itoaI2 (by omega) c2] at hx
    simp only [List.mem_cons, List.not_mem_nil, or_false] at hx
    omega
  by_cases c3 : n < 1000
  · rw [itoaI3 (by omega) c3] at hx
    simp only [List.mem_cons, List.not_mem_nil, or_false] at hx
    omega
  · rw [itoaI4 (by omega) h.2] at hx
    simp only [List.mem_cons, List.not_mem_nil, or_false] at hx
    omega

theorem itoa_gt {n : Int} (h : 0 ≤ n ∧ n < 10000) : gt10 (itoaI n) := fun x hx => by
  have := itoa_dig h x hx
  omega

theorem putU_gt {c : Int} (h : labOk c) : gt10 (putU c) := by
  have h1 := h.1
  have h2 := h.2.1
  unfold runeOk at h1
  intro x hx
  unfold putU at hx
  by_cases c1 : c < 128
  · rw [if_pos c1] at hx
    simp only [List.mem_cons, List.not_mem_nil, or_false] at hx
    omega
  rw [if_neg c1] at hx
  by_cases c2 : c < 2048
  · rw [if_pos c2] at hx
    simp only [List.mem_cons, List.not_mem_nil, or_false] at hx
    omega
  rw [if_neg c2] at hx
  by_cases c3 : c < 65536
  · rw [if_pos c3] at hx
    simp only [List.mem_cons, List.not_mem_nil, or_false] at hx
    omega
  · rw [if_neg c3] at hx
    simp only [List.mem_cons, List.not_mem_nil, or_false] at hx
    omega

theorem labL_gt {c : Int} (h : labOk c) : gt10 (labL c) := by
  unfold labL
  split
  · intro x hx
    rcases List.mem_cons.1 hx with rfl | hx
    · decide
    · exact putU_gt h x hx
  · exact putU_gt h

theorem stS_gt {k : Int} {ou : List Int} {s : Nat} (hs : s < 10000) : gt10 (stS k ou s) := by
  unfold stS
  exact gt10_app (gt10_app (gt10_app (itoa_gt (by omega)) (by decide)) (by split <;> decide)) (by decide)

theorem edS_gt {k K O N : Int} {nx ou names : List Int} (D : DotOk k K O N nx ou names) {i : Nat} (hi : i < nx.length) : gt10 (edS k K nx ou names i) := by
  obtain ⟨h1, h2, h3, h4⟩ := D.idx hi
  have hN := D.F.fN
  have hl := labL_gt (D.lab (x := i % K.toNat) (by omega)).1
  unfold edS onS
  refine gt10_app (gt10_app (gt10_app (gt10_app (gt10_app (itoa_gt ⟨Int.natCast_nonneg _, Int.ofNat_lt.2 (show i / K.toNat < 10000 by omega)⟩) (by decide)) (itoa_gt (D.nxv hi))) (by decide)) ?_) (by decide)
  split
  · exact gt10_app (gt10_app hl (by decide)) (itoa_gt (D.ouv i))
  · exact hl

theorem linesEd_gt {k K O N : Int} {nx ou names : List Int} (D : DotOk k K O N nx ou names) {i : Nat} (hi : i ≤ nx.length) : ∀ l ∈ linesEd k K N nx ou names i, gt10 l := by
  have hN := D.F.fN
  intro l hl
  simp only [linesEd, linesSt, List.mem_append, List.mem_singleton, List.mem_map, List.mem_range, List.mem_cons, List.not_mem_nil, or_false] at hl
  rcases hl with (((rfl | rfl) | ⟨j, hj, rfl⟩) | rfl) | ⟨j, hj, rfl⟩
  · decide
  · decide
  · exact stS_gt (by omega)
  · decide
  · exact edS_gt D (by omega)

/-! ### Lines out of a text -/

theorem line_split : ∀ {a b r t : List Int}, gt10 a → gt10 b → a ++ 10 :: r = b ++ 10 :: t → a = b ∧ r = t
  | [], [], r, t, _, _, h => ⟨rfl, (List.cons.inj h).2⟩
  | [], y :: b, r, t, _, h2, h => by
    have := (List.cons.inj h).1
    have := h2 y (List.mem_cons_self ..)
    omega
  | x :: a, [], r, t, h1, _, h => by
    have := (List.cons.inj h).1
    have := h1 x (List.mem_cons_self ..)
    omega
  | x :: a, y :: b, r, t, h1, h2, h => by
    obtain ⟨e1, e2⟩ := List.cons.inj h
    obtain ⟨e3, e4⟩ := line_split (fun z hz => h1 z (List.mem_cons_of_mem _ hz)) (fun z hz => h2 z (List.mem_cons_of_mem _ hz)) e2
    exact ⟨by rw [e1, e3], e4⟩

theorem lines_split : ∀ {a b : List (List Int)}, (∀ l ∈ a, gt10 l) → (∀ l ∈ b, gt10 l) → (a.map lineS).flatten ++ [125, 10] = (b.map lineS).flatten ++ [125, 10] → a = b
  | [], [], _, _, _ => rfl
  | [], y :: b, _, _, h => by
    simp [lineS] at h
  | x :: a, [], _, _, h => by
    simp [lineS] at h
  | x :: a, y :: b, h1, h2, h => by
    have e : x ++ 10 :: ((a.map lineS).flatten ++ [125, 10]) = y ++ 10 :: ((b.map lineS).flatten ++ [125, 10]) := by
      simpa [lineS] using h
    obtain ⟨e1, e2⟩ := line_split (h1 x (List.mem_cons_self ..)) (h2 y (List.mem_cons_self ..)) e
    rw [e1, lines_split (fun z hz => h1 z (List.mem_cons_of_mem _ hz)) (fun z hz => h2 z (List.mem_cons_of_mem _ hz)) e2]

theorem text_split {a b : List (List Int)} (h1 : ∀ l ∈ a, gt10 l) (h2 : ∀ l ∈ b, gt10 l) (h : textS a = textS b) : a = b := by
  unfold textS at h
  rw [List.append_assoc, List.append_assoc] at h
  exact lines_split h1 h2 (List.append_cancel_left h)

/-! ### Apart -/

theorem itoa_inj {a b : Int} (ha : 0 ≤ a ∧ a < 10000) (hb : 0 ≤ b ∧ b < 10000) {r t : List Int} (hr : noDig r) (ht : noDig t) (h : itoaI a ++ r = itoaI b ++ t) : a = b := by
  have e1 := num_back ha.1 ha.2 hr
  have e2 := num_back hb.1 hb.2 ht
  rw [h, e2] at e1
  exact (Prod.mk.inj e1).1.symm

theorem noDig_lab (r : List Int) : noDig (sLabel ++ r) := by
  unfold sLabel
  rw [List.cons_append]
  exact (by decide : ¬ isDig 32)

theorem edS_inj {k K O N O' N' : Int} {nx ou nx' ou' names : List Int} (D : DotOk k K O N nx ou names) (D' : DotOk k K O' N' nx' ou' names) {i : Nat} (hi : i < nx.length) (hi' : i < nx'.length)
    (h : edS k K nx ou names i = edS k K nx' ou' names i) : nx.getD i 0 = nx'.getD i 0 ∧ (k = 2 → ou.getD i 0 = ou'.getD i 0) := by
  unfold edS at h
  simp only [List.append_assoc] at h
  have h := List.append_cancel_left (List.append_cancel_left h)
  have e := itoa_inj (D.nxv hi) (D'.nxv hi') (noDig_lab _) (noDig_lab _) h
  refine ⟨e, fun hk => ?_⟩
  rw [e] at h
  have h := List.append_cancel_left (List.append_cancel_left h)
  unfold onS at h
  rw [if_pos hk, if_pos hk] at h
  simp only [List.append_assoc] at h
  have h := List.append_cancel_left (List.append_cancel_left h)
  exact itoa_inj (D.ouv i) (D'.ouv i) (by unfold noDig; decide) (by unfold noDig; decide) h

theorem stS_inj {k : Int} {ou ou' : List Int} {s : Nat} (hk : k = 1) (h : stS k ou s = stS k ou' s) : ou.getD s 0 = 1 ↔ ou'.getD s 0 = 1 := by
  unfold stS at h
  simp only [List.append_assoc] at h
  have h := List.append_cancel_left (List.append_cancel_left h)
  by_cases c1 : ou.getD s 0 = 1
  · by_cases c2 : ou'.getD s 0 = 1
    · exact ⟨fun _ => c2, fun _ => c1⟩
    · rw [if_pos ⟨hk, c1⟩, if_neg (fun q => c2 q.2)] at h
      exact absurd h (by decide)
  · by_cases c2 : ou'.getD s 0 = 1
    · rw [if_neg (fun q => c1 q.2), if_pos ⟨hk, c2⟩] at h
      exact absurd h (by decide)
    · exact ⟨fun q => absurd q c1, fun q => absurd q c2⟩

theorem linesEd_st {k K N : Int} {nx ou names : List Int} {s : Nat} (hs : s < N.toNat) (i : Nat) : (linesEd k K N nx ou names i)[2 + s]? = some (stS k ou s) := by
  unfold linesEd linesSt
  rw [List.getElem?_append_left (by simp; omega), List.getElem?_append_left (by simp; omega), List.getElem?_append_right (by simp)]
  simp [hs]

theorem linesEd_ed {k K N : Int} {nx ou names : List Int} {i n : Nat} (hi : i < n) : (linesEd k K N nx ou names n)[N.toNat + 3 + i]? = some (edS k K nx ou names i) := by
  unfold linesEd linesSt
  rw [List.getElem?_append_right (by simp)]
  have e : N.toNat + 3 + i - (([sRank, sStart] ++ List.map (stS k ou) (List.range N.toNat)) ++ [sFirst]).length = i := by
    simp
  rw [e]
  simp [hi]

theorem dot_apart {k K O N O' N' : Int} {nx ou nx' ou' names : List Int} (D : DotOk k K O N nx ou names) (D' : DotOk k K O' N' nx' ou' names) (h : dotT k K N nx ou names = dotT k K N' nx' ou' names) : N = N' ∧ nx = nx' ∧ ou = ou' := by
  have hN := D.F.fN
  have hN' := D'.F.fN
  have hK := D.F.fK
  have e := text_split (linesEd_gt D (Nat.le_refl _)) (linesEd_gt D' (Nat.le_refl _)) h
  have l1 := (linesEd_len D (Nat.le_refl _)).1
  have l2 := (linesEd_len D' (Nat.le_refl _)).1
  have m1 := D.lenNx.1
  have m2 := D'.lenNx.1
  have eN : N = N' := by
    rw [e, l2] at l1
    rw [m1, m2] at l1
    have : N'.toNat * (1 + K.toNat) = N.toNat * (1 + K.toNat) := by
      rw [Nat.mul_add, Nat.mul_add, Nat.mul_one, Nat.mul_one]
      omega
    have := Nat.eq_of_mul_eq_mul_right (by omega) this
    omega
  subst eN
  have eL : nx.length = nx'.length := by rw [m1, m2]
  have hed : ∀ i, i < nx.length → nx.getD i 0 = nx'.getD i 0 ∧ (k = 2 → ou.getD i 0 = ou'.getD i 0) := by
    intro i hi
    have a1 := linesEd_ed (k := k) (K := K) (N := N) (nx := nx) (ou := ou) (names := names) hi
    have a2 := linesEd_ed (k := k) (K := K) (N := N) (nx := nx') (ou := ou') (names := names) (show i < nx'.length by omega)
    rw [e, a2] at a1
    exact edS_inj D D' hi (by omega) (Option.some.inj a1).symm
  have eX : nx = nx' := by
    refine List.ext_getElem eL fun i h1 h2 => ?_
    have := (hed i h1).1
    rw [getD_of 0 h1, getD_of 0 h2] at this
    exact this
  refine ⟨rfl, eX, ?_⟩
  rcases D.F.fk with hk | hk
  · have o1 := D.F.fou1 hk
    have o2 := D'.F.fou1 hk
    have p1 := D.F.fO2 hk
    have p2 := D'.F.fO2 hk
    refine List.ext_getElem (by omega) fun i h1 h2 => ?_
    have a1 := linesEd_st (k := k) (K := K) (N := N) (nx := nx) (ou := ou) (names := names) (s := i) (by omega) nx.length
    have a2 := linesEd_st (k := k) (K := K) (N := N) (nx := nx') (ou := ou') (names := names) (s := i) (by omega) nx'.length
    rw [e, a2] at a1
    have b := stS_inj hk (Option.some.inj a1).symm
    have v1 := D.F.fous _ (List.getElem_mem h1)
    have v2 := D'.F.fous _ (List.getElem_mem h2)
    rw [getD_of 0 h1, getD_of 0 h2] at b
    omega
  · have o1 := D.F.fou2 hk
    have o2 := D'.F.fou2 hk
    have q1 := D.F.fnx
    refine List.ext_getElem (by omega) fun i h1 h2 => ?_
    have := (hed i (by omega)).2 hk
    rw [getD_of 0 h1, getD_of 0 h2] at this
    exact this

theorem drop_cons {t : List Int} {i : Nat} {c : Int} {r : List Int} (h : t.drop i = c :: r) : i < t.length ∧ t.getD i 0 = c ∧ t.drop (i + 1) = r ∧ t.length = i + 1 + r.length := by
  have hi : i < t.length := by
    have := congrArg List.length h
    simp only [List.length_drop, List.length_cons] at this
    omega
  have hl := congrArg List.length h
  rw [List.drop_eq_getElem_cons hi] at h
  obtain ⟨h1, h2⟩ := List.cons.inj h
  simp only [List.length_drop, List.length_cons] at hl
  exact ⟨hi, by rw [getD_of 0 hi]; exact h1, h2, by omega⟩

/-- What may stand behind a line break. -/
def aft (r : List Int) : Prop := r = [] ∨ r = [125, 10] ∨ ∃ x, r = 32 :: 32 :: x

theorem aft_lines (ls : List (List Int)) : aft ((ls.map lineS).flatten ++ [125, 10]) := by
  cases ls with
  | nil => exact .inr (.inl rfl)
  | cons l ls => exact .inr (.inr ⟨l ++ 10 :: ((ls.map lineS).flatten ++ [125, 10]), by simp [lineS]⟩)

theorem textS_B8 {ls : List (List Int)} (h : ∀ l ∈ ls, isB8 l) : isB8 (textS ls) := by
  unfold textS
  refine isB8_app (isB8_app (by decide) fun x hx => ?_) (by decide)
  obtain ⟨y, hy, hxy⟩ := List.mem_flatten.1 hx
  obtain ⟨l, hl, rfl⟩ := List.mem_map.1 hy
  unfold lineS at hxy
  exact isB8_app (isB8_app (by decide) (h l hl)) (by decide) x hxy

end Go.Ev
