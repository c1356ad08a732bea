/- Answers as texts, there and back. -/
import Derived.Test.YtbgggblbkknaoaaDoorEvNum
namespace Go.Ev
set_option linter.unusedVariables false

/-- Some numbers, each with a blank ahead. -/
def flatN (n : List Int) : List Int := n.flatMap fun x => 32 :: itoaI x

/-- An answer's line. -/
def showA (a : Int × (List Int × List Int)) : List Int :=
  if a.1 = 1 then 111 :: flatN a.2.1 ++ [10] else if a.1 = 2 then [121, 10] else if a.1 = 3 then 110 :: flatN a.2.2 ++ [10] else []

def showS (l : List (Int × (List Int × List Int))) : List Int := l.flatMap showA

def rowsOk (l : List (Int × (List Int × List Int))) : Prop := ∀ a ∈ l, okL a.2.1 ∧ okL a.2.2
instance (l : List (Int × (List Int × List Int))) : Decidable (rowsOk l) := by unfold rowsOk; infer_instance

def showOk (l : List (Int × (List Int × List Int))) : Prop := short l ∧ rowsOk l ∧ (showS l).length ≤ 1099511627776
instance (l : List (Int × (List Int × List Int))) : Decidable (showOk l) := by unfold showOk; infer_instance

theorem flatN_cons (x : Int) (n : List Int) : flatN (x :: n) = 32 :: itoaI x ++ flatN n := rfl
theorem flatN_append (m n : List Int) : flatN (m ++ n) = flatN m ++ flatN n := by simp [flatN]
theorem showS_cons (x : Int × (List Int × List Int)) (l : List (Int × (List Int × List Int))) : showS (x :: l) = showA x ++ showS l := rfl

theorem flatN_len : ∀ (n : List Int), (∀ x ∈ n, inI x) → (flatN n).length ≤ 22 * n.length
  | [], _ => by simp [flatN]
  | x :: n, h => by
    have h1 := itoaI_len (h x (by simp))
    have h2 := flatN_len n fun y hy => h y (by simp [hy])
    rw [flatN_cons]
    simp
    omega

theorem flatN_ge : ∀ (n : List Int), n.length ≤ (flatN n).length
  | [] => by simp
  | x :: n => by
    have h2 := flatN_ge n
    rw [flatN_cons]
    simp
    omega

/-- Numbers with a blank ahead of each, up to a line's end: they, the error, how many bytes are behind one. -/
def numsR : Nat → List Int → List Int → Nat → List Int × Int × Nat
  | 0, _, _, p => ([], 6, p)
  | f + 1, l, acc, p => match l with
    | [] => ([], 6, p)
    | c :: cs => if c = 10 then (acc, 0, p + 1) else if c ≠ 32 then ([], 6, p) else if acc.length = 4096 then ([], 2, p) else
      if (numL cs).2.2 ≠ 0 then ([], (numL cs).2.2, p + 1 + (numL cs).2.1) else numsR f (cs.drop (numL cs).2.1) (acc ++ [(numL cs).1]) (p + 1 + (numL cs).2.1)

def numsS (l : List Int) : List Int × Int × Nat := numsR (l.length + 1) l [] 0

theorem numsR_le : ∀ (f : Nat) (l acc : List Int) (p : Nat), (numsR f l acc p).2.2 ≤ p + l.length
  | 0, l, acc, p => by simp [numsR]
  | f + 1, [], acc, p => by simp [numsR]
  | f + 1, c :: cs, acc, p => by
    have hle := numL_le cs
    simp only [numsR, List.length_cons]
    by_cases c1 : c = 10
    · rw [if_pos c1]
      dsimp only
      omega
    · rw [if_neg c1]
      by_cases c2 : c ≠ 32
      · rw [if_pos c2]
        dsimp only
        omega
      · rw [if_neg c2]
        by_cases c3 : acc.length = 4096
        · rw [if_pos c3]
          dsimp only
          omega
        · rw [if_neg c3]
          by_cases c4 : (numL cs).2.2 ≠ 0
          · rw [if_pos c4]
            dsimp only
            omega
          · rw [if_neg c4]
            have := numsR_le f (cs.drop (numL cs).2.1) (acc ++ [(numL cs).1]) (p + 1 + (numL cs).2.1)
            rw [List.length_drop] at this
            omega

theorem numsS_le (l : List Int) : (numsS l).2.2 ≤ l.length := by
  have := numsR_le (l.length + 1) l [] 0
  unfold numsS
  omega

def small (n : Int) : Prop := 0 ≤ n ∧ n < 10000
theorem small.inI {n : Int} (h : small n) : inI n := by unfold small at h; unfold Ev.inI; omega

theorem numsR_len : ∀ (f : Nat) (l acc : List Int) (p : Nat), acc.length ≤ 4096 → (numsR f l acc p).1.length ≤ 4096
  | 0, l, acc, p, h => by simp [numsR]
  | f + 1, [], acc, p, h => by simp [numsR]
  | f + 1, c :: cs, acc, p, h => by
    simp only [numsR]
    split
    · exact h
    · split
      · simp
      · split
        · simp
        · split
          · simp
          · exact numsR_len f _ _ _ (by simp; omega)

theorem nums_there : ∀ (f : Nat) (l acc : List Int) (p : Nat) (ns : List Int) (q : Nat), numsR f l acc p = (ns, 0, q) →
    ∃ ms rest, ns = acc ++ ms ∧ l = flatN ms ++ 10 :: rest ∧ q = p + (flatN ms).length + 1 ∧ ∀ m ∈ ms, small m
  | 0, l, acc, p, ns, q, h => by simp [numsR] at h
  | f + 1, [], acc, p, ns, q, h => by simp [numsR] at h
  | f + 1, c :: cs, acc, p, ns, q, h => by
    simp only [numsR] at h
    by_cases c1 : c = 10
    · rw [if_pos c1] at h
      obtain ⟨rfl, h2⟩ := Prod.mk.inj h
      obtain ⟨_, rfl⟩ := Prod.mk.inj h2
      exact ⟨[], cs, by simp, by rw [c1]; rfl, by simp [flatN], by simp⟩
    · rw [if_neg c1] at h
      by_cases c2 : c ≠ 32
      · rw [if_pos c2] at h
        simp at h
      · rw [if_neg c2] at h
        by_cases c3 : acc.length = 4096
        · rw [if_pos c3] at h
          simp at h
        · rw [if_neg c3] at h
          by_cases c4 : (numL cs).2.2 ≠ 0
          · rw [if_pos c4] at h
            simp at h
            exact absurd h.2.1 c4
          · rw [if_neg c4] at h
            have c2 : c = 32 := by omega
            obtain ⟨n0, n1, n2, rest, n3, n4⟩ := num_there (l := cs) (n := (numL cs).1) (k := (numL cs).2.1) (by
              have : (numL cs).2.2 = 0 := by omega
              rw [← this])
            have e1 : cs.drop (numL cs).2.1 = rest := by
              have : cs.drop (numL cs).2.1 = (itoaI (numL cs).1 ++ rest).drop (itoaI (numL cs).1).length := by rw [← n3, ← n2]
              rw [this]
              simp
            rw [e1] at h
            obtain ⟨ms, rest', h1, h2, h3, h4⟩ := nums_there f rest _ _ ns q h
            refine ⟨(numL cs).1 :: ms, rest', by rw [h1]; simp, ?_, ?_, fun m hm => ?_⟩
            · rw [flatN_cons, c2]
              rw [h2] at n3
              simp only [List.cons_append, List.append_assoc]
              congr 1
            · rw [flatN_cons, h3, n2]
              simp
              omega
            · rcases List.mem_cons.1 hm with rfl | hm
              · exact ⟨n0, n1⟩
              · exact h4 m hm

theorem flat_noDig (ms rest : List Int) : noDig (flatN ms ++ 10 :: rest) := by
  cases ms with
  | nil =>
    show ¬ isDig 10
    decide
  | cons m ms =>
    show ¬ isDig 32
    decide

theorem nums_back : ∀ (ms rest : List Int) (f : Nat) (acc : List Int) (p : Nat), (∀ m ∈ ms, small m) → acc.length + ms.length ≤ 4096 → ms.length < f →
    numsR f (flatN ms ++ 10 :: rest) acc p = (acc ++ ms, 0, p + (flatN ms).length + 1)
  | [], rest, 0, acc, p, _, _, h => by simp at h
  | [], rest, f + 1, acc, p, h1, h2, h3 => by
    show numsR (f + 1) (10 :: rest) acc p = _
    simp [numsR, flatN]
  | m :: ms, rest, 0, acc, p, h1, h2, h3 => by simp at h3
  | m :: ms, rest, f + 1, acc, p, h1, h2, h3 => by
    have hm := h1 m (by simp)
    simp only [List.length_cons] at h2 h3
    have e := num_back hm.1 hm.2 (flat_noDig ms rest)
    have ih := nums_back ms rest f (acc ++ [m]) (p + 1 + (itoaI m).length) (fun x hx => h1 x (by simp [hx])) (by simp; omega) (by omega)
    rw [flatN_cons]
    show numsR (f + 1) (32 :: (itoaI m ++ flatN ms ++ 10 :: rest)) acc p = _
    rw [List.append_assoc]
    simp only [numsR]
    rw [if_neg (by decide), if_neg (by decide), if_neg (by omega), e]
    dsimp only
    rw [if_neg (by decide), List.drop_left, ih]
    simp
    omega

abbrev Ans := Int × (List Int × List Int)

/-- A line behind its letter: the answer, the error, how many bytes. -/
def lineR (c : Int) (cs : List Int) : Ans × Int × Nat :=
  if c = 111 then ((1, ((numsS cs).1, [])), (numsS cs).2.1, (numsS cs).2.2)
  else if c = 121 then (if cs.head? = some 10 then ((2, ([], [])), 0, 1) else ((2, ([], [])), 6, 0))
  else ((3, ([], (numsS cs).1)), (numsS cs).2.1, (numsS cs).2.2)

theorem lineR_le (c : Int) (cs : List Int) : (lineR c cs).2.2 ≤ cs.length := by
  have := numsS_le cs
  unfold lineR
  split
  · exact this
  · split
    · split
      · rename_i h
        cases cs with
        | nil => simp at h
        | cons d ds => simp
      · simp
    · exact this

/-- teach.Parse. -/
def parseR : Nat → List Int → List Ans → Nat → List Ans × Int × Nat
  | 0, _, _, p => ([], 6, p)
  | f + 1, l, acc, p => match l with
    | [] => (acc, 0, p)
    | c :: cs => if acc.length = 65536 then ([], 3, p) else if c = 111 ∨ c = 121 ∨ c = 110 then
        (if (lineR c cs).2.1 ≠ 0 then ([], (lineR c cs).2.1, p + 1 + (lineR c cs).2.2) else parseR f (cs.drop (lineR c cs).2.2) (acc ++ [(lineR c cs).1]) (p + 1 + (lineR c cs).2.2))
      else ([], 6, p)

def parseS (b : List Int) : List Ans × Int × Nat := if b.length > 16777216 then ([], 2, 0) else parseR (b.length + 1) b [] 0

/-- Answers as they are parsed. -/
def plainA (a : Ans) : Prop := (a.1 = 1 ∧ a.2.2 = [] ∧ a.2.1.length ≤ 4096 ∧ ∀ m ∈ a.2.1, small m) ∨ (a.1 = 2 ∧ a.2 = ([], [])) ∨ (a.1 = 3 ∧ a.2.1 = [] ∧ a.2.2.length ≤ 4096 ∧ ∀ m ∈ a.2.2, small m)

theorem numsS_there {l ns : List Int} {q : Nat} (h : numsS l = (ns, 0, q)) : ∃ rest, l = flatN ns ++ 10 :: rest ∧ q = (flatN ns).length + 1 ∧ (∀ m ∈ ns, small m) ∧ ns.length ≤ 4096 := by
  have hl := numsR_len (l.length + 1) l [] 0 (by simp)
  unfold numsS at h
  rw [h] at hl
  obtain ⟨ms, rest, h1, h2, h3, h4⟩ := nums_there _ _ _ _ _ _ h
  rw [List.nil_append] at h1
  subst h1
  exact ⟨rest, h2, by omega, h4, hl⟩

theorem numsS_back {ns rest : List Int} (h : ∀ m ∈ ns, small m) (hl : ns.length ≤ 4096) : numsS (flatN ns ++ 10 :: rest) = (ns, 0, (flatN ns).length + 1) := by
  unfold numsS
  have hg := flatN_ge ns
  rw [nums_back ns rest _ [] 0 h (by simpa using hl) (by simp; omega)]
  simp

theorem line_there {c : Int} {cs : List Int} (hc : c = 111 ∨ c = 121 ∨ c = 110) (h : (lineR c cs).2.1 = 0) : ∃ rest, c :: cs = showA (lineR c cs).1 ++ rest ∧ (lineR c cs).2.2 + 1 = (showA (lineR c cs).1).length ∧ plainA (lineR c cs).1 := by
  have key : ∀ (h' : (numsS cs).2.1 = 0), ∃ rest, cs = flatN (numsS cs).1 ++ 10 :: rest ∧ (numsS cs).2.2 = (flatN (numsS cs).1).length + 1 ∧ (∀ m ∈ (numsS cs).1, small m) ∧ (numsS cs).1.length ≤ 4096 := fun h' => numsS_there (by rw [← h'])
  rcases hc with rfl | rfl | rfl
  · unfold lineR at h ⊢
    simp only [if_true] at h ⊢
    obtain ⟨rest, h1, h2, h3, h4⟩ := key h
    refine ⟨rest, ?_, ?_, .inl ⟨rfl, rfl, h4, h3⟩⟩
    · show 111 :: cs = 111 :: flatN (numsS cs).1 ++ [10] ++ rest
      simp only [List.cons_append, List.append_assoc, List.nil_append]
      rw [← h1]
    · show _ = (111 :: flatN (numsS cs).1 ++ [10]).length
      rw [h2]
      simp
  · unfold lineR at h ⊢
    simp only [show ¬ (121 : Int) = 111 from by decide, if_false, if_true] at h ⊢
    by_cases hd : cs.head? = some 10
    · rw [if_pos hd] at h ⊢
      obtain ⟨ds, rfl⟩ : ∃ ds, cs = 10 :: ds := by
        cases cs with
        | nil => simp at hd
        | cons d ds => simp at hd; exact ⟨ds, by rw [hd]⟩
      exact ⟨ds, rfl, rfl, .inr (.inl ⟨rfl, rfl⟩)⟩
    · rw [if_neg hd] at h
      simp at h
  · unfold lineR at h ⊢
    simp only [show ¬ (110 : Int) = 111 from by decide, show ¬ (110 : Int) = 121 from by decide, if_false] at h ⊢
    obtain ⟨rest, h1, h2, h3, h4⟩ := key h
    refine ⟨rest, ?_, ?_, .inr (.inr ⟨rfl, rfl, h4, h3⟩)⟩
    · show 110 :: cs = 110 :: flatN (numsS cs).1 ++ [10] ++ rest
      simp only [List.cons_append, List.append_assoc, List.nil_append]
      rw [← h1]
    · show _ = (110 :: flatN (numsS cs).1 ++ [10]).length
      rw [h2]
      simp

theorem line_back {a : Ans} (h : plainA a) (rest : List Int) : ∃ c cs, showA a ++ rest = c :: cs ∧ (c = 111 ∨ c = 121 ∨ c = 110) ∧ lineR c cs = (a, 0, (showA a).length - 1) ∧ 2 ≤ (showA a).length := by
  rcases h with ⟨h1, h2, h3, h4⟩ | ⟨h1, h2⟩ | ⟨h1, h2, h3, h4⟩
  · have e : showA a = 111 :: (flatN a.2.1 ++ [10]) := if_pos h1
    refine ⟨111, flatN a.2.1 ++ 10 :: rest, by rw [e]; simp, .inl rfl, ?_, by rw [e]; simp⟩
    unfold lineR
    rw [if_pos rfl, numsS_back h4 h3, e]
    refine Prod.ext (Prod.ext h1.symm (Prod.ext rfl h2.symm)) (Prod.ext rfl ?_)
    simp
  · have e : showA a = [121, 10] := (if_neg (by omega)).trans (if_pos h1)
    refine ⟨121, 10 :: rest, by rw [e]; rfl, .inr (.inl rfl), ?_, by rw [e]; simp⟩
    unfold lineR
    rw [if_neg (by decide), if_pos rfl, if_pos (by rfl), e]
    exact Prod.ext (Prod.ext h1.symm h2.symm) rfl
  · have e : showA a = 110 :: (flatN a.2.2 ++ [10]) := (if_neg (by omega)).trans ((if_neg (by omega)).trans (if_pos h1))
    refine ⟨110, flatN a.2.2 ++ 10 :: rest, by rw [e]; simp, .inr (.inr rfl), ?_, by rw [e]; simp⟩
    unfold lineR
    rw [if_neg (by decide), if_neg (by decide), numsS_back h4 h3, e]
    refine Prod.ext (Prod.ext h1.symm (Prod.ext h2.symm rfl)) (Prod.ext rfl ?_)
    simp

theorem parse_there : ∀ (f : Nat) (l : List Int) (acc : List Ans) (p : Nat) (r : List Ans) (q : Nat), parseR f l acc p = (r, 0, q) → ∃ bs, r = acc ++ bs ∧ l = showS bs ∧ q = p + l.length ∧ ∀ a ∈ bs, plainA a
  | 0, l, acc, p, r, q, h => by simp [parseR] at h
  | f + 1, [], acc, p, r, q, h => by
    simp [parseR] at h
    exact ⟨[], by simp [h.1], rfl, by simp [h.2], by simp⟩
  | f + 1, c :: cs, acc, p, r, q, h => by
    simp only [parseR] at h
    by_cases c1 : acc.length = 65536
    · rw [if_pos c1] at h
      simp at h
    · rw [if_neg c1] at h
      by_cases c2 : c = 111 ∨ c = 121 ∨ c = 110
      · rw [if_pos c2] at h
        by_cases c3 : (lineR c cs).2.1 = 0
        · rw [if_neg (by omega)] at h
          obtain ⟨rest, h1, h2, h3⟩ := line_there c2 c3
          have e : cs.drop (lineR c cs).2.2 = rest := by
            have : (c :: cs).drop ((lineR c cs).2.2 + 1) = rest := by rw [h1, h2]; simp
            simpa using this
          rw [e] at h
          obtain ⟨bs, k1, k2, k3, k4⟩ := parse_there f rest _ _ r q h
          refine ⟨(lineR c cs).1 :: bs, by rw [k1]; simp, by rw [showS_cons, h1, k2], ?_, fun a ha => ?_⟩
          · rw [k3, h1, List.length_append, ← h2]
            omega
          · rcases List.mem_cons.1 ha with rfl | ha
            · exact h3
            · exact k4 a ha
        · rw [if_pos c3] at h
          simp at h
          exact absurd h.2.1 c3
      · rw [if_neg c2] at h
        simp at h

theorem parse_back : ∀ (bs : List Ans) (f : Nat) (acc : List Ans) (p : Nat), (∀ a ∈ bs, plainA a) → acc.length + bs.length ≤ 65536 → bs.length < f → parseR f (showS bs) acc p = (acc ++ bs, 0, p + (showS bs).length)
  | [], 0, acc, p, _, _, h => by simp at h
  | [], f + 1, acc, p, _, _, _ => by simp [parseR, showS]
  | a :: bs, 0, acc, p, _, _, h => by simp at h
  | a :: bs, f + 1, acc, p, h1, h2, h3 => by
    simp only [List.length_cons] at h2 h3
    rw [showS_cons]
    obtain ⟨c, cs, k1, k2, k3, k4⟩ := line_back (h1 a (by simp)) (showS bs)
    rw [k1]
    simp only [parseR]
    rw [if_neg (by omega), if_pos k2, k3]
    dsimp only
    have e : cs.drop ((showA a).length - 1) = showS bs := by
      have : (c :: cs).drop (((showA a).length - 1) + 1) = showS bs := by
        rw [← k1, show (showA a).length - 1 + 1 = (showA a).length from by omega]
        simp
      simpa using this
    rw [if_neg (by decide), e, parse_back bs f _ _ (fun x hx => h1 x (by simp [hx])) (by simp; omega) (by omega), ← k1]
    simp
    omega

theorem showA_pos {a : Ans} (h : plainA a) : 1 ≤ (showA a).length := by
  obtain ⟨_, _, _, _, _, h2⟩ := line_back h []
  omega

theorem showS_ge : ∀ (bs : List Ans), (∀ a ∈ bs, plainA a) → bs.length ≤ (showS bs).length
  | [], _ => by simp
  | a :: bs, h => by
    have h1 := showA_pos (h a (by simp))
    have h2 := showS_ge bs fun x hx => h x (by simp [hx])
    rw [showS_cons]
    simp
    omega

theorem plain_okL {a : Ans} (h : plainA a) : okL a.2.1 ∧ okL a.2.2 := by
  have key : ∀ l : List Int, l.length ≤ 4096 → (∀ m ∈ l, small m) → okL l := fun l h1 h2 => ⟨by unfold short; omega, fun x hx => (h2 x hx).inI⟩
  have e0 : okL [] := ⟨by unfold short; simp, by simp⟩
  rcases h with ⟨h1, h2, h3, h4⟩ | ⟨h1, h2⟩ | ⟨h1, h2, h3, h4⟩
  · exact ⟨key _ h3 h4, by rw [h2]; exact e0⟩
  · rw [h2]
    exact ⟨e0, e0⟩
  · exact ⟨by rw [h2]; exact e0, key _ h3 h4⟩

end Go.Ev
