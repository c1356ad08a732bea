/- A machine's text, read back. -/
import Derived.Test.YtjjdadbbiciigaaGreatDoorBkEvImp
namespace Go.Ev
set_option linter.unusedVariables false
set_option linter.unusedSimpArgs false

theorem numbS_of {lo hi kd n : Int} {b rest : List Int} {a : Nat} (h : b.drop a = itoaI n ++ rest) (hr : noDig rest) (h0 : 0 ≤ n) (h1 : n < 10000) (hlo : lo ≤ n) (hhi : n ≤ hi) :
  numbS lo hi kd b a = .inr (n, a + (itoaI n).length) := by
 unfold numbS
 rw [h, num_back h0 h1 hr]
 rw [if_neg (by simp), if_neg (by simp; omega)]

theorem drop_next {b s rest : List Int} {a : Nat} (h : b.drop a = s ++ rest) : b.drop (a + s.length) = rest := by
 rw [← List.drop_drop, h, List.drop_left]

theorem noDig_sp (l : List Int) : noDig (32 :: l) := by show ¬ isDig 32; unfold isDig; omega
theorem noDig_nl (l : List Int) : noDig (10 :: l) := by show ¬ isDig 10; unfold isDig; omega
theorem noDig_sl (l : List Int) : noDig (47 :: l) := by show ¬ isDig 47; unfold isDig; omega
def cellT (k K : Int) (nx ou : List Int) (s x : Nat) : List Int :=
 if k = 1 then itoaI (nx.getD (s * K.toNat + x) 0) else itoaI (nx.getD (s * K.toNat + x) 0) ++ [47] ++ itoaI (ou.getD (s * K.toNat + x) 0)

theorem expCell_eq (k K : Int) (nx ou : List Int) (s x : Nat) : expCell k K nx ou s x = cellT k K nx ou s x ++ [behind K x] := by
 unfold expCell cellT
 split <;> simp

def lineT (k K : Int) (nx ou : List Int) (s : Nat) : Nat -> Nat -> List Int
 |0, _ => []
 |d + 1, x => (if 0 < x ∨ k = 1 then [32] else []) ++ cellT k K nx ou s x ++ lineT k K nx ou s d (x + 1)

theorem line_snoc (k K : Int) (nx ou : List Int) (s : Nat) : ∀ d x : Nat, lineT k K nx ou s (d + 1) x = lineT k K nx ou s d x ++ (if 0 < x + d ∨ k = 1 then [32] else []) ++ cellT k K nx ou s (x + d)
 |0, x => by simp [lineT]
 |d + 1, x => by
  show (if 0 < x ∨ k = 1 then [32] else []) ++ cellT k K nx ou s x ++ lineT k K nx ou s (d + 1) (x + 1) = _
  rw [line_snoc k K nx ou s d (x + 1)]
  have e : x + 1 + d = x + (d + 1) := by omega
  rw [e]
  simp only [lineT, List.append_assoc]

theorem cells_line (k K : Int) (nx ou : List Int) (s : Nat) : ∀ x : Nat, (x : Int) ≤ K -> 0 < x →
  (if k = 1 then [32] else []) ++ expCells k K nx ou s x = lineT k K nx ou s x 0 ++ (if (x : Int) = K then [10] else [32])
 |0, _, h => absurd h (by omega)
 |1, hx, _ => by
  have hb : behind K 0 = if ((1 : Nat) : Int) = K then 10 else 32 := by
   unfold behind
   by_cases h : ((1 : Nat) : Int) = K
   ·rw [if_pos h, if_pos (by omega)]
   ·rw [if_neg h, if_neg (by omega)]
  simp only [expCells, lineT, expCell_eq, hb, List.nil_append, List.append_nil]
  by_cases h : ((1 : Nat) : Int) = K
  ·rw [if_pos h, if_pos h]
   by_cases h1 : k = 1 <;> simp [h1]
  ·rw [if_neg h, if_neg h]
   by_cases h1 : k = 1 <;> simp [h1]
 |x + 2, hx, _ => by
  have ih := cells_line k K nx ou s (x + 1) (by omega) (by omega)
  rw [if_neg (show ¬ (((x + 1 : Nat) : Int) = K) by omega)] at ih
  have hb : behind K (x + 1) = if ((x + 2 : Nat) : Int) = K then 10 else 32 := by
   unfold behind
   by_cases h : ((x + 2 : Nat) : Int) = K
   ·rw [if_pos h, if_pos (by omega)]
   ·rw [if_neg h, if_neg (by omega)]
  rw [line_snoc, if_pos (show 0 < 0 + (x + 1) ∨ k = 1 from .inl (by omega))]
  show _ ++ (expCells k K nx ou s (x + 1) ++ expCell k K nx ou s (x + 1)) = _
  rw [← List.append_assoc, ih, expCell_eq, hb, Nat.zero_add]
  by_cases h : ((x + 2 : Nat) : Int) = K
  ·rw [if_pos h, if_pos h]
   simp
  ·rw [if_neg h, if_neg h]
   simp

variable {k K O N : Int} {nx ou : List Int}

theorem nx_at (F : Fine k K O N nx ou) {i : Nat} (h : i < nx.length) : 0 ≤ nx.getD i 0 ∧ nx.getD i 0 < N := by
 rw [getD_of 0 h]
 exact F.fnxs _ (List.getElem_mem h)
theorem ou_at (F : Fine k K O N nx ou) {i : Nat} (h : i < ou.length) : 0 ≤ ou.getD i 0 ∧ ou.getD i 0 < O := by
 rw [getD_of 0 h]
 exact F.fous _ (List.getElem_mem h)

theorem place_lt {s x : Nat} (hs : (s : Int) < N) (hx : (x : Int) < K) : ((s * K.toNat + x : Nat) : Int) < N * K := by
 have e : ((s * K.toNat + x : Nat) : Int) = (s : Int) * K + x := by
  rw [Int.natCast_add, Int.natCast_mul, Int.toNat_of_nonneg (by omega)]
 have := Int.mul_le_mul_of_nonneg_right (a := (s : Int) + 1) (b := N) (c := K) (by omega) (by omega)
 rw [Int.add_mul, Int.one_mul] at this
 omega

theorem cell_back (F : Fine k K O N nx ou) {b rest : List Int} {s x a : Nat} (hs : (s : Int) < N) (hx : (x : Int) < K) (hr : noDig rest) (nx' ou' : List Int)
  (h : b.drop a = (if 0 < x ∨ k = 1 then [32] else []) ++ cellT k K nx ou s x ++ rest) :
  ∃ a', cellS k O N b x a nx' ou' = .inr (a', nx' ++ [nx.getD (s * K.toNat + x) 0], if k = 2 then ou' ++ [ou.getD (s * K.toNat + x) 0] else ou') ∧ b.drop a' = rest := by
 have hp := place_lt hs hx
 have fnx := F.fnx
 have fN := F.fN
 have fO := F.fO
 obtain ⟨n0, n1⟩ := nx_at F (i := s * K.toNat + x) (by omega)
 unfold cellS
 obtain ⟨a1, e1, d1⟩ : ∃ a1, (if 0 < x ∨ k = 1 then wantS [32] b a else .inr a) = .inr a1 ∧ b.drop a1 = cellT k K nx ou s x ++ rest := by
  by_cases c : 0 < x ∨ k = 1
  ·rw [if_pos c] at h ⊢
   rw [List.append_assoc] at h
   exact ⟨_, wantS_of h, drop_next h⟩
  ·rw [if_neg c] at h ⊢
   exact ⟨a, rfl, by simpa using h⟩
 rw [e1, bindR_inr]
 unfold cellT at d1
 by_cases hk : k = 1
 ·rw [if_pos hk] at d1
  rw [numbS_of d1 hr n0 (by omega) n0 (by omega), bindR_inr, if_neg (by omega), if_neg (by omega)]
  exact ⟨_, rfl, drop_next d1⟩
 ·have k2 : k = 2 := by have := F.fk; omega
  have fou := F.fou2 k2
  obtain ⟨o0, o1⟩ := ou_at F (i := s * K.toNat + x) (by omega)
  rw [if_neg hk] at d1
  simp only [List.append_assoc] at d1
  rw [numbS_of d1 (noDig_sl _) n0 (by omega) n0 (by omega), bindR_inr, if_pos k2, if_pos k2]
  have d2 := drop_next d1
  simp only
  rw [wantS_of d2, bindR_inr]
  have d3 := drop_next d2
  rw [numbS_of d3 hr o0 (by omega) o0 (by omega), bindR_inr]
  exact ⟨_, rfl, drop_next d3⟩

theorem line_noDig (d x : Nat) (hd : 0 < x ∨ k = 1) (s : Nat) (rest : List Int) (hr : noDig rest) : noDig (lineT k K nx ou s d x ++ rest) := by
 cases d with
 |zero => simpa [lineT] using hr
 |succ d =>
  simp only [lineT, if_pos hd, List.append_assoc]
  exact noDig_sp _

theorem cells_back (F : Fine k K O N nx ou) {b rest : List Int} {s : Nat} (hs : (s : Int) < N) (hr : noDig rest) :
  ∀ (d x a : Nat) (nx' ou' : List Int), x + d = K.toNat -> b.drop a = lineT k K nx ou s d x ++ rest →
   ∃ a', cellsS k O N b d x a nx' ou' = .inr (a', nx' ++ (List.range' x d).map (fun j => nx.getD (s * K.toNat + j) 0), if k = 2 then ou' ++ (List.range' x d).map (fun j => ou.getD (s * K.toNat + j) 0) else ou') ∧ b.drop a' = rest
 |0, x, a, nx', ou', hd, h => ⟨a, by simp [cellsS], by simpa [lineT] using h⟩
 |d + 1, x, a, nx', ou', hd, h => by
  simp only [lineT, List.append_assoc] at h
  rw [← List.append_assoc] at h
  obtain ⟨a1, e1, d1⟩ := cell_back F hs (x := x) (by omega) (line_noDig d (x + 1) (.inl (by omega)) s rest hr) nx' ou' h
  obtain ⟨a2, e2, d2⟩ := cells_back F hs hr d (x + 1) a1 _ (if k = 2 then ou' ++ [ou.getD (s * K.toNat + x) 0] else ou') (by omega) d1
  refine ⟨a2, ?_, d2⟩
  simp only [cellsS]
  rw [e1, bindR_inr]
  simp only
  rw [e2]
  by_cases c : k = 2
  ·simp [c, List.range'_succ]
  ·simp [c, List.range'_succ]

theorem getD_pre {l : List Int} {i n : Nat} (h : i + n ≤ l.length) : l.take i ++ (List.range' 0 n).map (fun j => l.getD (i + j) 0) = l.take (i + n) := by
 refine List.ext_getElem ?_ fun j h1 h2 => ?_
 ·simp; omega
 ·rw [List.getElem_append]
  simp only [List.length_take]
  split
  ·simp
  ·rename_i hj
   simp only [List.length_take, List.length_append, List.length_map, List.length_range'] at h1
   simp only [List.getElem_map, List.getElem_range', List.getElem_take]
   rw [getD_of 0 (by omega)]
   congr 1
   omega

def rowsT (k K : Int) (nx ou : List Int) : Nat -> Nat -> List Int
 |_, 0 => []
 |s, d + 1 => expLead k ou s ++ expCells k K nx ou s K.toNat ++ rowsT k K nx ou (s + 1) d

theorem rowsT_eq (k K : Int) (nx ou : List Int) : ∀ (d s : Nat), expRows k K nx ou (s + d) = expRows k K nx ou s ++ rowsT k K nx ou s d
 |0, s => by simp [rowsT]
 |d + 1, s => by
  have ih := rowsT_eq k K nx ou d (s + 1)
  rw [show s + (d + 1) = s + 1 + d by omega, ih]
  simp only [expRows, rowsT, List.append_assoc]

def ouT (k : Int) (K : Int) (ou : List Int) (s : Nat) : List Int := if k = 1 then ou.take s else ou.take (s * K.toNat)

theorem row_back (F : Fine k K O N nx ou) {b rest : List Int} {s a : Nat} (hs : (s : Int) < N)
  (h : b.drop a = expLead k ou s ++ expCells k K nx ou s K.toNat ++ rest) :
  ∃ a', rowS k K O N b a (nx.take (s * K.toNat)) (ouT k K ou s) = .inr (a', nx.take ((s + 1) * K.toNat), ouT k K ou (s + 1)) ∧ b.drop a' = rest := by
 have fK := F.fK
 have fN := F.fN
 have fnx := F.fnx
 have hKn : ((K.toNat : Nat) : Int) = K := by omega
 have hp := place_lt (K := K) (s := s) (x := K.toNat - 1) hs (by omega)
 have hq : s * K.toNat + K.toNat ≤ nx.length := by omega
 have hm : (s + 1) * K.toNat = s * K.toNat + K.toNat := Nat.succ_mul _ _
 have hcl := cells_line k K nx ou s K.toNat (by omega) (by omega)
 rw [if_pos hKn] at hcl
 have hb : b.drop a = (if k = 1 then itoaI (ou.getD s 0) else []) ++ (lineT k K nx ou s K.toNat 0 ++ ([10] ++ rest)) := by
  rw [h]
  unfold expLead
  by_cases c : k = 1
  ·rw [if_pos c] at hcl ⊢
   rw [if_pos c, List.append_assoc, List.append_assoc, ← List.append_assoc [32], hcl]
   simp
  ·rw [if_neg c] at hcl ⊢
   rw [if_neg c]
   rw [List.nil_append] at hcl
   rw [hcl]
   simp
 unfold rowS leadS
 by_cases c : k = 1
 ·rw [if_pos c] at hb
  have fo := F.fou1 c
  have fO := F.fO2 c
  obtain ⟨o0, o1⟩ := ou_at F (i := s) (by omega)
  rw [if_pos c, numbS_of hb (line_noDig K.toNat 0 (.inr c) s _ (noDig_nl rest)) o0 (by omega) o0 (by omega), bindR_inr, bindR_inr]
  have d1 := drop_next hb
  obtain ⟨a2, e2, d2⟩ := cells_back F hs (noDig_nl rest) K.toNat 0 _ (nx.take (s * K.toNat)) (ouT k K ou s ++ [ou.getD s 0]) (by omega) d1
  simp only
  rw [e2, bindR_inr]
  simp only
  rw [wantS_of (s := [10]) d2, bindR_inr, getD_pre hq, if_neg (by omega), hm]
  refine ⟨_, ?_, drop_next (s := [10]) d2⟩
  unfold ouT
  rw [if_pos c, if_pos c, List.take_add_one, getD_of 0 (show s < ou.length by omega), List.getElem?_eq_getElem (show s < ou.length by omega)]
  rfl
 ·have k2 : k = 2 := by have := F.fk; omega
  rw [if_neg c] at hb
  have fo := F.fou2 k2
  rw [if_neg c, bindR_inr]
  obtain ⟨a2, e2, d2⟩ := cells_back F hs (noDig_nl rest) K.toNat 0 a (nx.take (s * K.toNat)) (ouT k K ou s) (by omega) (by simpa using hb)
  simp only
  rw [e2, bindR_inr]
  simp only
  rw [wantS_of (s := [10]) d2, bindR_inr, getD_pre hq, if_pos k2, hm]
  refine ⟨_, ?_, drop_next (s := [10]) d2⟩
  unfold ouT
  rw [if_neg c, if_neg c, getD_pre (by omega), hm]

theorem rows_back (F : Fine k K O N nx ou) {b rest : List Int} : ∀ (d s a : Nat), s + d = N.toNat -> b.drop a = rowsT k K nx ou s d ++ rest →
  ∃ a', rowsS k K O N b d a (nx.take (s * K.toNat)) (ouT k K ou s) = .inr (a', nx, ou) ∧ b.drop a' = rest
 |0, s, a, hd, h => by
  have fK := F.fK
  have fN := F.fN
  have fnx := F.fnx
  have fk := F.fk
  have hl : nx.length ≤ s * K.toNat := by
   have : ((s * K.toNat : Nat) : Int) = N * K := by rw [Int.natCast_mul, Int.toNat_of_nonneg (by omega), show (s : Int) = N by omega]
   omega
  refine ⟨a, ?_, by simpa [rowsT] using h⟩
  simp only [rowsS]
  rw [List.take_of_length_le hl]
  unfold ouT
  rcases fk with c | c
  ·have := F.fou1 c
   rw [if_pos c, List.take_of_length_le (by omega)]
  ·have := F.fou2 c
   rw [if_neg (by omega), List.take_of_length_le (by omega)]
 |d + 1, s, a, hd, h => by
  have fN := F.fN
  simp only [rowsT, List.append_assoc] at h
  rw [← List.append_assoc] at h
  obtain ⟨a1, e1, d1⟩ := row_back F (s := s) (by omega) h
  obtain ⟨a2, e2, d2⟩ := rows_back F d (s + 1) a1 (by omega) d1
  refine ⟨a2, ?_, d2⟩
  simp only [rowsS]
  rw [e1, bindR_inr]
  exact e2

theorem head_back (F : Fine k K O N nx ou) {b rest : List Int} (h : b = expHead k K O N ++ rest) : ∃ a, headI b = .inr (k, K, O, N, a) ∧ b.drop a = rest := by
 have fK := F.fK
 have fN := F.fN
 have fO := F.fO
 unfold headI
 rcases F.fk with rfl | rfl
 ·have fO2 := F.fO2 rfl
  have h0 : b.drop 0 = [100, 102, 97, 32] ++ (itoaI K ++ (32 :: (itoaI N ++ (10 :: rest)))) := by
   rw [h]
   unfold expHead
   rw [if_pos rfl]
   simp
  have hne : ¬ b[0]? = some 109 := by
   rw [← List.head?_drop, h0]
   simp
  rw [if_neg hne, wantS_of h0, bindR_inr]
  have d0 := drop_next h0
  rw [numbS_of d0 (noDig_sp _) (by omega) (by omega) fK.1 fK.2, bindR_inr]
  have d1 := drop_next d0
  simp only
  rw [wantS_of (s := [32]) d1, bindR_inr]
  have d2 := drop_next (s := [32]) d1
  rw [numbS_of d2 (noDig_nl _) (by omega) (by omega) fN.1 fN.2, bindR_inr]
  have d3 := drop_next d2
  simp only
  rw [wantS_of (s := [10]) d3, bindR_inr]
  have d4 := drop_next (s := [10]) d3
  rw [fO2]
  exact ⟨_, rfl, d4⟩
 ·have h0 : b.drop 0 = [109, 101, 97, 108, 121, 32] ++ (itoaI K ++ (32 :: (itoaI O ++ (32 :: (itoaI N ++ (10 :: rest)))))) := by
   rw [h]
   unfold expHead
   rw [if_neg (by decide)]
   simp
  have hne : b[0]? = some 109 := by
   rw [← List.head?_drop, h0]
   simp
  rw [if_pos hne, wantS_of h0, bindR_inr]
  have d0 := drop_next h0
  rw [numbS_of d0 (noDig_sp _) (by omega) (by omega) fK.1 fK.2, bindR_inr]
  have d1 := drop_next d0
  simp only
  rw [wantS_of (s := [32]) d1, bindR_inr]
  have d2 := drop_next (s := [32]) d1
  rw [numbS_of d2 (noDig_sp _) (by omega) (by omega) fO.1 fO.2, bindR_inr]
  have d3 := drop_next d2
  simp only
  rw [wantS_of (s := [32]) d3, bindR_inr]
  have d4 := drop_next (s := [32]) d3
  rw [numbS_of d4 (noDig_nl _) (by omega) (by omega) fN.1 fN.2, bindR_inr]
  have d5 := drop_next d4
  simp only
  rw [wantS_of (s := [10]) d5, bindR_inr]
  exact ⟨_, rfl, drop_next (s := [10]) d5⟩

theorem expS_len (F : Fine k K O N nx ou) : (expS k K O N nx ou).length ≤ 3072080 := by
 have fK := F.fK
 have fN := F.fN
 have fO := F.fO
 have hnI : ∀ x ∈ nx, inI x := fun x h => by
  have := F.fnxs x h
  exact ⟨by omega, by omega⟩
 have hoI : ∀ x ∈ ou, inI x := fun x h => by
  have := F.fous x h
  exact ⟨by omega, by omega⟩
 have lh := expHead_len (k := k) (K := K) (O := O) (N := N) ⟨by omega, by omega⟩ ⟨by omega, by omega⟩ ⟨by omega, by omega⟩
 have lr := expRows_len (k := k) (K := K) hnI hoI (by omega) N.toNat
 unfold expS
 simp only [List.length_append]
 omega

theorem read_back (F : Fine k K O N nx ou) (more : List Int) :
  readS (expS k K O N nx ou ++ more) = if more = [] then .inr (k, K, O, N, nx, ou) else .inl (6, ((expS k K O N nx ou).length : Int)) := by
 unfold readS
 obtain ⟨a, e, d⟩ := head_back F (b := expS k K O N nx ou ++ more) (rest := expRows k K nx ou N.toNat ++ more) (by unfold expS; rw [List.append_assoc])
 rw [e, bindR_inr]
 have hr := rowsT_eq k K nx ou N.toNat 0
 simp only [expRows, List.nil_append, Nat.zero_add] at hr
 rw [hr] at d
 obtain ⟨a2, e2, d2⟩ := rows_back F N.toNat 0 a (by omega) d
 have o0 : ouT k K ou 0 = [] := by unfold ouT; simp
 rw [Nat.zero_mul, List.take_zero, o0] at e2
 simp only
 rw [e2, bindR_inr]
 simp only
 have hl := congrArg List.length d2
 rw [List.length_drop, List.length_append] at hl
 by_cases hm : more = []
 ·subst hm
  rw [if_pos rfl, if_neg (by simp at hl ⊢; omega)]
 ·have : 0 < more.length := List.length_pos_iff.2 hm
  rw [if_neg hm, if_pos (by simp; omega)]
  congr 3
  omega

theorem import_back (F : Fine k K O N nx ou) : impS (expS k K O N nx ou) = ⟨k, K, O, N, 0, ((expS k K O N nx ou).length : Int), nx, ou⟩ := by
 have := expS_len F
 have h := read_back F []
 rw [List.append_nil, if_pos rfl] at h
 unfold impS
 rw [if_neg (by omega), h]

end Go.Ev
