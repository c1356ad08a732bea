/- Drawings of machines, in plain lists. -/
import Derived.Test.YtghgpadmkdfanaaDoorEvMach
import Derived.Test.YtghgpadmkdfanaaDoorEvNum
import Derived.Laws.Strings
namespace Go.Ev
set_option linter.unusedVariables false
set_option linter.unusedSimpArgs false

/-! ### Bytes -/

def isB8 (l : List Int) : Prop := ∀ x ∈ l, 0 ≤ x ∧ x < 256

theorem isB8_app {a b : List Int} (h1 : isB8 a) (h2 : isB8 b) : isB8 (a ++ b) := fun x hx => (List.mem_append.1 hx).elim (h1 x) (h2 x)

theorem bts_app (a b : ByteArray) : bts (a ++ b) = bts a ++ bts b := by
  unfold bts
  rw [ByteArray.data_append, Array.toList_append, List.map_append]

theorem bts_size (a : ByteArray) : (bts a).length = a.size := by
  unfold bts
  rw [List.length_map, Array.length_toList]
  rfl

theorem ofBts_data (l : List Int) : (ofBts l).data.toList = l.map fun n => UInt8.ofNat n.toNat := by
  have : ∀ (l : List Int) (r : ByteArray), (l.foldl (fun r n => r.push (UInt8.ofNat n.toNat)) r).data.toList = r.data.toList ++ l.map fun n => UInt8.ofNat n.toNat := by
    intro l
    induction l with
    | nil => intro r; simp
    | cons x xs ih =>
      intro r
      rw [List.foldl_cons, ih]
      simp [ByteArray.push]
  unfold ofBts
  rw [this]
  rfl

theorem bts_ofBts {l : List Int} (h : isB8 l) : bts (ofBts l) = l := by
  unfold bts
  rw [ofBts_data, List.map_map]
  refine (List.map_congr_left fun x hx => ?_).trans (List.map_id _)
  have := h x hx
  simp only [Function.comp_apply, UInt8.toNat_ofNat', id]
  omega

theorem bts_inj {a b : ByteArray} (h : bts a = bts b) : a = b := by
  unfold bts at h
  have h2 : a.data.toList = b.data.toList := by
    have inj : ∀ (l m : List UInt8), l.map (fun x => (x.toNat : Int)) = m.map (fun x => (x.toNat : Int)) → l = m := by
      intro l
      induction l with
      | nil => intro m h; cases m with
        | nil => rfl
        | cons => simp at h
      | cons x xs ih => intro m h; cases m with
        | nil => simp at h
        | cons y ys =>
          simp only [List.map_cons, List.cons.injEq] at h
          have e : x = y := UInt8.toNat_inj.1 (by have := h.1; omega)
          rw [ih ys h.2, e]
    exact inj _ _ h
  cases a
  cases b
  congr 1
  exact Array.toList_inj.1 h2

theorem isB8_bts (a : ByteArray) : isB8 (bts a) := by
  intro x hx
  unfold bts at hx
  obtain ⟨y, _, rfl⟩ := List.mem_map.1 hx
  have : y.toNat < 256 := y.toNat_lt
  omega

theorem isB8_itoa (n : Int) : isB8 (itoaI n) := by
  intro x hx
  unfold itoaI at hx
  obtain ⟨y, _, rfl⟩ := List.mem_map.1 hx
  have : y.toNat < 256 := y.toNat_lt
  omega

theorem num_bts (n : Int) : bts (ofBts (itoaI n)) = itoaI n := bts_ofBts (isB8_itoa n)

/-! ### Runes -/

def runeOk (c : Int) : Prop := (0 ≤ c ∧ c < 55296) ∨ (57343 < c ∧ c ≤ 1114111)
instance (c : Int) : Decidable (runeOk c) := by unfold runeOk; infer_instance

def putU (c : Int) : List Int :=
  if c < 128 then [c] else if c < 2048 then [192 + c / 64, 128 + c % 64] else if c < 65536 then [224 + c / 4096, 128 + c / 64 % 64, 128 + c % 64]
  else [240 + c / 262144, 128 + c / 4096 % 64, 128 + c / 64 % 64, 128 + c % 64]

theorem u8_toNat {n : Nat} (h : n < 256) : ((UInt8.ofNat n).toNat : Int) = (n : Int) := by
  rw [UInt8.toNat_ofNat']
  omega

theorem enc_bts {c : Int} (h : runeOk c) : bts (Utf8.encode c) = putU c := by
  unfold runeOk at h
  have hv : Utf8.valid c = true := by
    unfold Utf8.valid
    simp only [Bool.or_eq_true, Bool.and_eq_true, decide_eq_true_eq]
    omega
  obtain ⟨u, rfl⟩ : ∃ u : Nat, c = (u : Int) := ⟨c.toNat, by omega⟩
  unfold Utf8.encode putU bts
  simp only [hv, if_true, Int.toNat_natCast]
  by_cases h1 : u < 0x80
  · rw [if_pos h1, if_pos (show (u : Int) < 128 by omega)]
    simp only [List.map_cons, List.map_nil]
    rw [u8_toNat (by omega)]
  · rw [if_neg h1, if_neg (show ¬ (u : Int) < 128 by omega)]
    by_cases h2 : u < 0x800
    · rw [if_pos h2, if_pos (show (u : Int) < 2048 by omega)]
      simp only [List.map_cons, List.map_nil]
      rw [u8_toNat (by omega), u8_toNat (by omega)]
      simp only [List.cons.injEq, and_true]
      omega
    · rw [if_neg h2, if_neg (show ¬ (u : Int) < 2048 by omega)]
      by_cases h3 : u < 0x10000
      · rw [if_pos h3, if_pos (show (u : Int) < 65536 by omega)]
        simp only [List.map_cons, List.map_nil]
        rw [u8_toNat (by omega), u8_toNat (by omega), u8_toNat (by omega)]
        simp only [List.cons.injEq, and_true]
        omega
      · rw [if_neg h3, if_neg (show ¬ (u : Int) < 65536 by omega)]
        simp only [List.map_cons, List.map_nil]
        rw [u8_toNat (by omega), u8_toNat (by omega), u8_toNat (by omega), u8_toNat (by omega)]
        simp only [List.cons.injEq, and_true]
        omega

theorem putU_len (c : Int) : 1 ≤ (putU c).length ∧ (putU c).length ≤ 4 := by
  unfold putU
  split
  · simp
  · split
    · simp
    · split <;> simp

theorem putU_B8 {c : Int} (h : runeOk c) : isB8 (putU c) := by
  rw [← enc_bts h]
  exact isB8_bts _

theorem enc_of {c : Int} (h : runeOk c) : ofBts (putU c) = Utf8.encode c := bts_inj (by rw [bts_ofBts (putU_B8 h), enc_bts h])

/-! ### Labels -/

def labOk (c : Int) : Prop := runeOk c ∧ 33 ≤ c ∧ c ≠ 127
instance (c : Int) : Decidable (labOk c) := by unfold labOk; infer_instance

def labB (c : Int) : ByteArray := if c = 34 ∨ c = 92 then ByteArray.mk #[92] ++ Utf8.encode c else Utf8.encode c
def labL (c : Int) : List Int := if c = 34 ∨ c = 92 then 92 :: putU c else putU c

theorem lab_bts {c : Int} (h : runeOk c) : bts (labB c) = labL c := by
  unfold labB labL
  by_cases hc : c = 34 ∨ c = 92
  · rw [if_pos hc, if_pos hc, bts_app, enc_bts h]
    rfl
  · rw [if_neg hc, if_neg hc, enc_bts h]

theorem labL_len (c : Int) : (labL c).length ≤ 5 := by
  have := putU_len c
  unfold labL
  split
  · simp only [List.length_cons]
    omega
  · omega

theorem labB_size {c : Int} (h : runeOk c) : (labB c).size ≤ 5 := by
  rw [← bts_size, lab_bts h]
  exact labL_len c

/-- A symbol's name in a drawing. -/
def labelS (names : List Int) (x : Int) : ByteArray × Int :=
  if x < 0 ∨ x ≥ names.length then (ByteArray.empty, 10) else if labOk (names.getD x.toNat 0) then (labB (names.getD x.toNat 0), 0) else (ByteArray.empty, 20)

/-! ### Lines -/

/-- A line's text: two blanks, its parts, a line break. -/
def lineS (ps : List Int) : List Int := [32, 32] ++ ps ++ [10]

def sCircle : List Int := [99, 105, 114, 99, 108, 101]
def sDouble : List Int := [100, 111, 117, 98, 108, 101, 99, 105, 114, 99, 108, 101]
def sShape : List Int := [32, 91, 115, 104, 97, 112, 101, 61]
def sHead : List Int := [100, 105, 103, 114, 97, 112, 104, 32, 109, 32, 123, 10]
def sRank : List Int := [114, 97, 110, 107, 100, 105, 114, 61, 76, 82]
def sStart : List Int := [115, 116, 97, 114, 116, 32, 91, 115, 104, 97, 112, 101, 61, 112, 111, 105, 110, 116, 93]
def sFirst : List Int := [115, 116, 97, 114, 116, 32, 45, 62, 32, 48]
def sLabel : List Int := [32, 91, 108, 97, 98, 101, 108, 61, 34]

def stS (k : Int) (ou : List Int) (s : Nat) : List Int := itoaI s ++ sShape ++ (if k = 1 ∧ ou.getD s 0 = 1 then sDouble else sCircle) ++ [93]
/-- What stands on an edge. -/
def onS (k : Int) (ou names : List Int) (i x : Nat) : List Int := if k = 2 then labL (names.getD x 0) ++ [47] ++ itoaI (ou.getD i 0) else labL (names.getD x 0)
def edS (k K : Int) (nx ou names : List Int) (i : Nat) : List Int :=
  itoaI ((i / K.toNat : Nat) : Int) ++ [32, 45, 62, 32] ++ itoaI (nx.getD i 0) ++ sLabel ++ onS k ou names i (i % K.toNat) ++ [34, 93]

/-- The lines, but for the first and the last. -/
def linesS (k K : Int) (N : Nat) (nx ou names : List Int) : List (List Int) :=
  [sRank, sStart] ++ (List.range N).map (stS k ou) ++ [sFirst] ++ (List.range nx.length).map (edS k K nx ou names)

def textS (ls : List (List Int)) : List Int := sHead ++ (ls.map lineS).flatten ++ [125, 10]

theorem itoa_short {n : Int} (h : 0 ≤ n ∧ n < 10000) : (itoaI n).length ≤ 21 := itoaI_len (by unfold inI; omega)

theorem stS_len {k : Int} {ou : List Int} {s : Nat} (h : s < 10000) : (stS k ou s).length ≤ 60 := by
  have := itoa_short (n := (s : Int)) (by omega)
  unfold stS
  split <;> simp [sShape, sDouble, sCircle] <;> omega

theorem onS_len {k : Int} {ou names : List Int} {i x : Nat} (h : 0 ≤ ou.getD i 0 ∧ ou.getD i 0 < 10000) : (onS k ou names i x).length ≤ 30 := by
  have := itoa_short h
  have := labL_len (names.getD x 0)
  unfold onS
  split
  · simp only [List.length_append, List.length_cons, List.length_nil]
    omega
  · omega

theorem edS_len {k K : Int} {nx ou names : List Int} {i : Nat} (h1 : i / K.toNat < 10000) (h2 : 0 ≤ nx.getD i 0 ∧ nx.getD i 0 < 10000) (h3 : 0 ≤ ou.getD i 0 ∧ ou.getD i 0 < 10000) : (edS k K nx ou names i).length ≤ 100 := by
  have a1 := itoa_short (n := ((i / K.toNat : Nat) : Int)) ⟨Int.natCast_nonneg _, Int.ofNat_lt.2 h1⟩
  have a2 := itoa_short h2
  have a3 := onS_len (k := k) (names := names) (x := i % K.toNat) h3
  unfold edS
  simp only [List.length_append, List.length_cons, List.length_nil, sLabel]
  omega

/-! ### What is drawn -/

/-- The text without its end. -/
def partS (ls : List (List Int)) : List Int := sHead ++ (ls.map lineS).flatten

theorem part_snoc (ls : List (List Int)) (l : List Int) : partS (ls ++ [l]) = partS ls ++ lineS l := by
  unfold partS
  simp

theorem text_part (ls : List (List Int)) : textS ls = partS ls ++ [125, 10] := rfl

theorem part_len {ls : List (List Int)} (h : ∀ l ∈ ls, l.length ≤ 100) : (partS ls).length ≤ 12 + 103 * ls.length := by
  have : ∀ ls : List (List Int), (∀ l ∈ ls, l.length ≤ 100) → ((ls.map lineS).flatten).length ≤ 103 * ls.length := by
    intro ls
    induction ls with
    | nil => intro _; simp
    | cons l ls ih =>
      intro h
      have h1 := h l (by simp)
      have h2 := ih fun x hx => h x (by simp [hx])
      simp only [List.map_cons, List.flatten_cons, List.length_append, List.length_cons, lineS, List.length_nil]
      omega
  have := this ls h
  unfold partS
  simp only [List.length_append, sHead, List.length_cons, List.length_nil]
  omega

structure DotOk (k K O N : Int) (nx ou names : List Int) : Prop where
  F : Fine k K O N nx ou
  len : (names.length : Int) = K
  ok : ∀ c ∈ names, labOk c

def linesSt (k : Int) (ou : List Int) (s : Nat) : List (List Int) := [sRank, sStart] ++ (List.range s).map (stS k ou)
def linesEd (k K N : Int) (nx ou names : List Int) (i : Nat) : List (List Int) := linesSt k ou N.toNat ++ [sFirst] ++ (List.range i).map (edS k K nx ou names)

theorem linesSt_succ (k : Int) (ou : List Int) (s : Nat) : linesSt k ou (s + 1) = linesSt k ou s ++ [stS k ou s] := by
  unfold linesSt
  rw [List.range_succ, List.map_append, List.append_assoc]
  rfl
theorem linesEd_succ (k K N : Int) (nx ou names : List Int) (i : Nat) : linesEd k K N nx ou names (i + 1) = linesEd k K N nx ou names i ++ [edS k K nx ou names i] := by
  unfold linesEd
  rw [List.range_succ, List.map_append, List.append_assoc]
  simp
theorem linesEd_zero (k K N : Int) (nx ou names : List Int) : linesEd k K N nx ou names 0 = linesSt k ou N.toNat ++ [sFirst] := by
  unfold linesEd
  simp

section
variable {k K O N : Int} {nx ou names : List Int}

theorem DotOk.lenNx (D : DotOk k K O N nx ou names) : nx.length = N.toNat * K.toNat ∧ nx.length ≤ 65536 := by
  have h1 := D.F.fN
  have h2 := D.F.fK
  have h3 := D.F.fnx
  have h4 := mulK ⟨h1, h2⟩
  obtain ⟨n, rfl⟩ : ∃ n : Nat, N = n := ⟨N.toNat, by omega⟩
  obtain ⟨q, rfl⟩ : ∃ q : Nat, K = q := ⟨K.toNat, by omega⟩
  simp only [Int.toNat_natCast]
  constructor
  · exact_mod_cast h3
  · omega

theorem DotOk.pos (D : DotOk k K O N nx ou names) : 0 < nx.length := by
  have h1 := D.F.fN
  have h2 := D.F.fK
  rw [D.lenNx.1]
  exact Nat.mul_pos (by omega) (by omega)

theorem DotOk.idx (D : DotOk k K O N nx ou names) {i : Nat} (hi : i < nx.length) : i / K.toNat < N.toNat ∧ i % K.toNat < K.toNat ∧ i / K.toNat * K.toNat + i % K.toNat = i ∧ K.toNat = names.length := by
  have h2 := D.F.fK
  have h3 := D.lenNx.1
  have h4 := D.len
  have hK : 0 < K.toNat := by omega
  refine ⟨Nat.div_lt_of_lt_mul (by rw [Nat.mul_comm]; omega), Nat.mod_lt _ hK, Nat.div_add_mod' i K.toNat, by omega⟩

theorem DotOk.nxv (D : DotOk k K O N nx ou names) {i : Nat} (hi : i < nx.length) : 0 ≤ nx.getD i 0 ∧ nx.getD i 0 < 10000 := by
  have h1 := D.F.fN
  rw [getD_of 0 hi]
  have := D.F.fnxs _ (List.getElem_mem hi)
  omega

theorem DotOk.ouv (D : DotOk k K O N nx ou names) (i : Nat) : 0 ≤ ou.getD i 0 ∧ ou.getD i 0 < 10000 := by
  have h1 := D.F.fO
  rw [List.getD_eq_getElem?_getD]
  cases h : ou[i]? with
  | none => simp
  | some y =>
    have := D.F.fous y (List.mem_of_getElem? h)
    simp only [Option.getD_some]
    omega

theorem DotOk.lab (D : DotOk k K O N nx ou names) {x : Nat} (hx : x < names.length) : labOk (names.getD x 0) ∧ (names.map labB).getD x ByteArray.empty = labB (names.getD x 0) := by
  rw [getD_of 0 hx]
  exact ⟨D.ok _ (List.getElem_mem hx), by rw [getD_of ByteArray.empty (by simpa using hx), List.getElem_map]⟩

theorem linesSt_len (D : DotOk k K O N nx ou names) {s : Nat} (hs : s ≤ N.toNat) : (linesSt k ou s).length = s + 2 ∧ ∀ l ∈ linesSt k ou s, l.length ≤ 100 := by
  have hN := D.F.fN
  refine ⟨by simp [linesSt], fun l hl => ?_⟩
  simp only [linesSt, List.mem_append, List.mem_cons, List.not_mem_nil, or_false, List.mem_map, List.mem_range] at hl
  rcases hl with (rfl | rfl) | ⟨j, hj, rfl⟩
  · simp [sRank]
  · simp [sStart]
  · have := stS_len (k := k) (ou := ou) (s := j) (by omega)
    omega

theorem linesEd_len (D : DotOk k K O N nx ou names) {i : Nat} (hi : i ≤ nx.length) : (linesEd k K N nx ou names i).length = N.toNat + 3 + i ∧ ∀ l ∈ linesEd k K N nx ou names i, l.length ≤ 100 := by
  obtain ⟨h1, h2⟩ := linesSt_len D (Nat.le_refl N.toNat)
  refine ⟨by simp [linesEd, h1]; omega, fun l hl => ?_⟩
  have hN := D.F.fN
  simp only [linesEd, List.mem_append, List.mem_singleton, List.mem_map, List.mem_range] at hl
  rcases hl with (hl | rfl) | ⟨j, hj, rfl⟩
  · exact h2 l hl
  · simp [sFirst]
  · have := D.idx (i := j) (by omega)
    exact edS_len (by omega) (D.nxv (by omega)) (D.ouv j)

theorem partSt_len (D : DotOk k K O N nx ou names) {s : Nat} (hs : s ≤ N.toNat) : (partS (linesSt k ou s)).length ≤ 200000 := by
  have hN := D.F.fN
  obtain ⟨h1, h2⟩ := linesSt_len D hs
  have := part_len h2
  omega

theorem partEd_len (D : DotOk k K O N nx ou names) {i : Nat} (hi : i ≤ nx.length) : (partS (linesEd k K N nx ou names i)).length ≤ 8000000 := by
  have hN := D.F.fN
  have hx := D.lenNx.2
  obtain ⟨h1, h2⟩ := linesEd_len D hi
  have := part_len h2
  omega

end

/-- What is wrong with what is to be drawn. -/
def dotE (k K O N : Int) (nx ou names : List Int) : Int :=
  if (checkR k K O N nx ou).2 ≠ 0 then (checkR k K O N nx ou).2 else if (names.length : Int) ≠ K then 1 else if ∀ c ∈ names, labOk c then 0 else 20

theorem dotE_zero {k K O N : Int} {nx ou names : List Int} : dotE k K O N nx ou names = 0 ↔ DotOk k K O N nx ou names := by
  unfold dotE
  constructor
  · intro h
    by_cases h1 : (checkR k K O N nx ou).2 = 0
    · rw [if_neg (by simpa using h1)] at h
      by_cases h2 : (names.length : Int) = K
      · rw [if_neg (by simpa using h2)] at h
        by_cases h3 : ∀ c ∈ names, labOk c
        · exact ⟨checkR_fine.1 h1, h2, h3⟩
        · rw [if_neg h3] at h
          cases h
      · rw [if_pos h2] at h
        cases h
    · rw [if_pos h1] at h
      exact absurd h h1
  · intro D
    rw [if_neg (by simpa using checkR_fine.2 D.F), if_neg (by simpa using D.len), if_pos D.ok]

/-- A drawing. -/
def dotT (k K N : Int) (nx ou names : List Int) : List Int := textS (linesEd k K N nx ou names nx.length)

/-- The first symbols' names. -/
def fillL (names : List Int) (i : Nat) : List ByteArray := (names.take i).map labB ++ List.replicate (names.length - i) ByteArray.empty

theorem fillL_zero (names : List Int) : fillL names 0 = List.replicate names.length ByteArray.empty := by
  unfold fillL
  simp
theorem fillL_all (names : List Int) : fillL names names.length = names.map labB := by
  unfold fillL
  simp
theorem fillL_len {names : List Int} {i : Nat} (hi : i ≤ names.length) : (fillL names i).length = names.length := by
  unfold fillL
  simp
  omega
theorem fillL_set {names : List Int} {i : Nat} (hi : i < names.length) : (fillL names i).set i (labB names[i]) = fillL names (i + 1) := by
  unfold fillL
  have hl : ((names.take i).map labB).length = i := by
    rw [List.length_map, List.length_take]
    omega
  rw [List.set_append, if_neg (by omega), hl, Nat.sub_self, show names.length - i = (names.length - (i + 1)) + 1 by omega, List.replicate_succ, List.set_cons_zero, List.take_add_one, List.map_append, List.append_assoc]
  rw [List.getElem?_eq_getElem hi]
  rfl

theorem labelS_at {names : List Int} {i : Nat} (hi : i < names.length) : labelS names (i : Int) = if labOk names[i] then (labB names[i], 0) else (ByteArray.empty, 20) := by
  unfold labelS
  rw [if_neg (by omega), Int.toNat_natCast, getD_of 0 hi]

theorem partSt_zero (k : Int) (ou : List Int) : partS (linesSt k ou 0) = sHead ++ lineS sRank ++ lineS sStart := by
  simp [partS, linesSt]

theorem all_drop {P : Int → Prop} {l : List Int} {i : Nat} (hi : i < l.length) : (∀ c ∈ l.drop i, P c) ↔ P l[i] ∧ ∀ c ∈ l.drop (i + 1), P c := by
  rw [List.drop_eq_getElem_cons hi]
  exact List.forall_mem_cons

theorem str_eq (a b : ByteArray) : (a.toList == b.toList) = decide (bts a = bts b) := by
  by_cases h : bts a = bts b
  · rw [bts_inj h, decide_eq_true rfl]
    simp
  · have hne : a.toList ≠ b.toList := fun e => h (by
      rw [ByteArray.toList_eq, ByteArray.toList_eq] at e
      unfold bts
      rw [e])
    rw [decide_eq_false h]
    simpa using hne

theorem bts_at (s : ByteArray) (j : Nat) : ((s.data.toList.getD j 0).toNat : Int) = (bts s).getD j 0 := by
  unfold bts
  rw [List.getD_eq_getElem?_getD, List.getD_eq_getElem?_getD, List.getElem?_map]
  cases s.data.toList[j]? <;> rfl

theorem putU_one {c y : Int} (h : runeOk c) (hy : y < 128) : putU c = [y] ↔ c = y := by
  unfold putU
  constructor
  · intro e
    by_cases h1 : c < 128
    · rw [if_pos h1] at e
      exact (List.cons.inj e).1
    · rw [if_neg h1] at e
      by_cases h2 : c < 2048
      · rw [if_pos h2] at e
        cases (List.cons.inj e).2
      · rw [if_neg h2] at e
        by_cases h3 : c < 65536
        · rw [if_pos h3] at e
          cases (List.cons.inj e).2
        · rw [if_neg h3] at e
          cases (List.cons.inj e).2
  · rintro rfl
    rw [if_pos hy]

theorem wr32 (x : Int) (h0 : -2147483648 ≤ x) (h1 : x ≤ 2147483647) : IntKind.i32.wrap x = x := by
  have e : IntKind.i32.wrap x = (let m := x % 4294967296; if m ≥ 2147483648 then m - 4294967296 else m) := by
    simp [IntKind.wrap, IntKind.bits, IntKind.signed]
  rw [e]
  dsimp only
  split <;> omega

instance (l : List Int) : Decidable (isB8 l) := by unfold isB8; infer_instance

theorem labL_B8 {c : Int} (h : runeOk c) : isB8 (labL c) := by
  rw [← lab_bts h]
  exact isB8_bts _

theorem stS_B8 (k : Int) (ou : List Int) (s : Nat) : isB8 (stS k ou s) := by
  unfold stS
  exact isB8_app (isB8_app (isB8_app (isB8_itoa _) (by decide)) (by split <;> decide)) (by decide)

theorem edS_B8 {k K O N : Int} {nx ou names : List Int} (D : DotOk k K O N nx ou names) {i : Nat} (hi : i < nx.length) : isB8 (edS k K nx ou names i) := by
  obtain ⟨h1, h2, h3, h4⟩ := D.idx hi
  have hl := labL_B8 (D.lab (x := i % K.toNat) (by omega)).1.1
  unfold edS onS
  refine isB8_app (isB8_app (isB8_app (isB8_app (isB8_app (isB8_itoa _) (by decide)) (isB8_itoa _)) (by decide)) ?_) (by decide)
  split
  · exact isB8_app (isB8_app hl (by decide)) (isB8_itoa _)
  · exact hl

theorem linesEd_B8 {k K O N : Int} {nx ou names : List Int} (D : DotOk k K O N nx ou names) {i : Nat} (hi : i ≤ nx.length) : ∀ l ∈ linesEd k K N nx ou names i, isB8 l := by
  intro l hl
  simp only [linesEd, linesSt, List.mem_append, List.mem_singleton, List.mem_map, List.mem_range, List.mem_cons, List.not_mem_nil, or_false] at hl
  rcases hl with (((rfl | rfl) | ⟨j, hj, rfl⟩) | rfl) | ⟨j, hj, rfl⟩
  · decide
  · decide
  · exact stS_B8 _ _ _
  · decide
  · exact edS_B8 D (by omega)

end Go.Ev
