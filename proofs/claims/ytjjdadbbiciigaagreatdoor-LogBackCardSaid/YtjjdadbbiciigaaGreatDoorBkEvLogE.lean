/- Logs: a whole log, there and back. -/
import Derived.Test.YtjjdadbbiciigaaGreatDoorBkEvLogC
import Derived.Test.YtjjdadbbiciigaaGreatDoorBkEvLogD
namespace Go.Ev
open Go.Proofs
set_option linter.unusedVariables false
set_option linter.unusedSimpArgs false

theorem teach_tst {w : List Int} {k K O a : Int} {o v : List Int} (h : teachC 2 w k K O a o v = 0) : o = [] ∧ ((a = 2 ∧ v = []) ∨ (a = 3 ∧ (wordS K v).2 = 0)) := by
 unfold teachC at h
 rw [if_neg (by omega), if_pos rfl] at h
 split at h
 ·rename_i c
  refine ⟨List.eq_nil_of_length_eq_zero c.1, ?_⟩
  rcases c.2 with c | c
  ·exact .inl ⟨c.1, List.eq_nil_of_length_eq_zero c.2⟩
  ·exact .inr c
 ·cases h

theorem alikeS_zero {k K O k' K' O' : Int} (h : alikeS k K O k' K' O' = 0) : k' = k ∧ K' = K ∧ O' = O := by
 unfold alikeS at h
 split at h
 ·cases h
 ·split at h
  ·cases h
  ·split at h
   ·cases h
   ·omega

def GoodE (k K O : Int) (x : Ent) : Prop :=
 (x.1.1 = 1 ∧ x.2.1 = 1 ∧ x.2.2.2 = [] ∧ ((∀ y ∈ x.1.2.1, 0 ≤ y ∧ y < 64) ∧ x.1.2.1.length ≤ 4096) ∧ (∀ y ∈ x.2.2.1, 0 ≤ y ∧ y < 64) ∧ x.2.2.1.length ≤ 4096) ∨
 (x.1.1 = 2 ∧ (x.1.2.2.1 = k ∧ x.1.2.2.2.1 = K ∧ x.1.2.2.2.2.1 = O ∧ Fine k K O x.1.2.2.2.2.2.1 x.1.2.2.2.2.2.2.1 x.1.2.2.2.2.2.2.2) ∧ x.2.2.1 = [] ∧
  ((x.2.1 = 2 ∧ x.2.2.2 = []) ∨ (x.2.1 = 3 ∧ (∀ y ∈ x.2.2.2, 0 ≤ y ∧ y < 64) ∧ x.2.2.2.length ≤ 4096)))

def HeadOk (k K O : Int) : Prop := (k = 1 ∨ k = 2) ∧ (1 ≤ K ∧ K ≤ 64) ∧ (k = 1 -> O = 2) ∧ 1 ≤ O ∧ O ≤ 64

theorem ent_good {k K O : Int} (H : HeadOk k K O) {x : Ent} (o1 : okL x.1.2.2.2.2.2.2.1) (o2 : okL x.1.2.2.2.2.2.2.2) (h : entF k K O x = 0) : GoodE k K O x := by
 obtain ⟨⟨q, w, k', K', O', N, nx, ou⟩, a, o, v⟩ := x
 obtain ⟨H1, H2, H3, H4, H5⟩ := H
 unfold entF at h
 dsimp only at h o1 o2
 by_cases c : q = 1
 ·rw [if_pos c] at h
  unfold askF at h
  by_cases d : (wordS K w).2 = 0
  ·rw [if_neg (by simpa using d)] at h
   obtain ⟨e1, e2, e3⟩ := teach_ask h
   obtain ⟨_, w1, w2⟩ := wordS_zero.1 d
   refine .inl ⟨c, e1, e2, ⟨fun y hy => ?_, w1⟩, ?_⟩
   ·have := w2 y hy
    omega
   ·rcases e3 with ⟨k1, z1, z2⟩ | ⟨k1, z1, z2⟩
    ·refine ⟨fun y hy => ?_, by show o.length ≤ _; omega⟩
     have := allIn_in z2 y hy
     omega
    ·refine ⟨fun y hy => ?_, by show o.length ≤ _; omega⟩
     have := allIn_in z2 y hy
     omega
  ·rw [if_pos d] at h
   exact absurd h d
 ·rw [if_neg c] at h
  by_cases c2 : q = 2
  ·rw [if_pos c2] at h
   unfold tstF at h
   by_cases d : (checkS k' K' O' N nx ou).2 = 0
   ·rw [if_neg (by simpa using d)] at h
    by_cases d2 : alikeS k K O k' K' O' = 0
    ·rw [if_neg (by simpa using d2)] at h
     obtain ⟨rfl, rfl, rfl⟩ := alikeS_zero d2
     rw [checkS_eq o1 o2] at d
     obtain ⟨e1, e2⟩ := teach_tst h
     refine .inr ⟨c2, ⟨rfl, rfl, rfl, checkR_fine.1 d⟩, e1, ?_⟩
     rcases e2 with e2 | ⟨e2, e3⟩
     ·exact .inl e2
     ·obtain ⟨_, w1, w2⟩ := wordS_zero.1 e3
      refine .inr ⟨e2, fun y hy => ?_, w1⟩
      have := w2 y hy
      omega
    ·rw [if_pos d2] at h
     exact absurd h d2
   ·rw [if_pos d] at h
    exact absurd h d
  ·rw [if_neg c2] at h
   cases h

theorem fine_okL {k K O N : Int} {nx ou : List Int} (F : Fine k K O N nx ou) : okL nx ∧ okL ou := by
 have h1 := F.fN
 have h2 := F.fK
 have h3 := F.fO
 have h4 := mulK ⟨h1, h2⟩
 have h5 := F.fnx
 refine ⟨⟨by unfold short; omega, fun x hx => ?_⟩, ⟨?_, fun x hx => ?_⟩⟩
 ·have := F.fnxs x hx
  unfold inI
  omega
 ·unfold short
  rcases F.fk with hk | hk
  ·have := F.fou1 hk
   omega
  ·have := F.fou2 hk
   omega
 ·have := F.fous x hx
  unfold inI
  omega

theorem fine_export {k K O N : Int} {nx ou : List Int} (F : Fine k K O N nx ou) : exportS k K O N nx ou = (expS k K O N nx ou, 0) := by
 unfold exportS
 rw [if_neg (by simpa using checkR_fine.2 F)]

theorem good_show {k K O : Int} {x : Ent} (h : GoodE k K O x) : showE x := by
 rcases h with ⟨h1, h2, h3, ⟨h4, h5⟩, h6, h7⟩ | ⟨h1, ⟨e1, e2, e3, F⟩, h3, h4⟩
 ·exact .inl ⟨h1, ⟨by omega, fun y hy => by have := h4 y hy; unfold inI; omega⟩, by omega, fun y hy => by have := h6 y hy; unfold inI; omega⟩
 ·refine .inr ⟨h1, fine_okL F, Nat.le_trans (exportS_len _ _ _ _ _ _) (by decide), ?_⟩
  rcases h4 with ⟨_, h4⟩ | ⟨_, h4, h5⟩
  ·rw [h4]
   exact ⟨by simp, by simp⟩
  ·exact ⟨by omega, fun y hy => by have := h4 y hy; unfold inI; omega⟩

theorem good_okEnt {k K O : Int} {x : Ent} (h : GoodE k K O x) (s1 : short x.1.2.2.2.2.2.2.1) (s2 : short x.1.2.2.2.2.2.2.2) : okEnt x := by
 refine ⟨?_, s1, s2⟩
 rcases h with ⟨h1, h2, h3, ⟨h4, h5⟩, h6, h7⟩ | ⟨h1, ⟨e1, e2, e3, F⟩, h3, h4⟩
 ·rw [h3]
  exact ⟨by omega, by simp⟩
 ·rw [h3]
  refine ⟨by simp, ?_⟩
  rcases h4 with ⟨_, h4⟩ | ⟨_, h4, h5⟩
  ·rw [h4]
   simp
  ·omega

def normE (k K O : Int) (x : Ent) : Ent :=
 if x.1.1 = 1 then ((1, (x.1.2.1, (k, (K, (O, (0, ([], []))))))), (1, (x.2.2.1, []))) else ((2, ([], x.1.2.2)), (x.2.1, ([], x.2.2.2)))

theorem entT_good {k K O : Int} {x : Ent} (h : GoodE k K O x) : (x.1.1 = 1 ∧ entT x = askT x.1.2.1 x.2.2.1) ∨ (x.1.1 = 2 ∧ entT x = tstT (expS k K O x.1.2.2.2.2.2.1 x.1.2.2.2.2.2.2.1 x.1.2.2.2.2.2.2.2) x.2.1 x.2.2.2) := by
 unfold entT
 rcases h with ⟨h1, _⟩ | ⟨h1, ⟨e1, e2, e3, F⟩, _⟩
 ·exact .inl ⟨h1, if_pos h1⟩
 ·refine .inr ⟨h1, ?_⟩
  rw [if_neg (by omega), e1, e2, e3, fine_export F]

theorem parsS_back {k K O : Int} {b : List Int} (hb : isB8 b) : ∀ (l : List Ent) (n a : Nat) (acc : List Ent), b.drop a = entsT l -> (∀ x ∈ l, entF k K O x = 0 ∧ GoodE k K O x) -> l.length ≤ n →
  parsS k K O b n a acc = .inr (acc ++ l.map (normE k K O))
 |[], n, a, acc, hd, hx, hn => by
  have hl := congrArg List.length hd
  rw [List.length_drop] at hl
  have hl : b.length - a = 0 := hl
  rw [List.map_nil, List.append_nil]
  cases n with
  |zero => rfl
  |succ n =>
   unfold parsS
   rw [if_neg (by omega)]
 |x :: l, 0, a, acc, hd, hx, hn => by simp at hn
 |x :: l, n + 1, a, acc, hd, hx, hn => by
  obtain ⟨he, hg⟩ := hx x (by simp)
  have hx' : ∀ y ∈ l, entF k K O y = 0 ∧ GoodE k K O y := fun y hy => hx y (by simp [hy])
  rw [entsT_cons] at hd
  have hnext := drop_next hd
  have hl := congrArg List.length hd
  rw [List.length_drop, List.length_append] at hl
  simp only [List.length_cons] at hn
  have ih := fun acc => parsS_back hb l n (a + (entT x).length) acc hnext hx' (by omega)
  obtain ⟨⟨q, w, k', K', O', N, nx, ou⟩, A, o, v⟩ := x
  rcases entT_good hg with ⟨c, eT⟩ | ⟨c, eT⟩
  ·dsimp only at c eT
   rcases hg with ⟨_, h2, h3, ⟨h4, h5⟩, h6, h7⟩ | ⟨h1, _⟩
   ·dsimp only at h2 h3 h4 h5 h6 h7
    rw [eT] at hd hl ih
    obtain ⟨i1, i2, i3, i4, i5⟩ := ask_back hd (fun y hy => by have := h4 y hy; omega) (fun y hy => by have := h6 y hy; omega)
    have hF : askF k K O w 1 o [] = 0 := by
     unfold entF at he
     dsimp only at he
     rw [if_pos c, h2, h3] at he
     exact he
    have hT : (askT w o).length ≥ 1 := by unfold askT; simp
    unfold parsS
    rw [if_pos (by omega), if_pos i1, i2, i5]
    dsimp only
    rw [i3, i4, if_neg (by simpa using hF), ih]
    unfold normE
    rw [List.map_cons]
    dsimp only
    rw [if_pos c]
    simp
   ·dsimp only at h1
    omega
  ·dsimp only at c eT
   rcases hg with ⟨h1, _⟩ | ⟨_, ⟨e1, e2, e3, F⟩, h3, h4⟩
   ·dsimp only at h1
    omega
   ·dsimp only at e1 e2 e3 F h3 h4
    have hv : ∀ y ∈ v, 0 ≤ y ∧ y < 10000 := by
     rcases h4 with ⟨_, h4⟩ | ⟨_, h4, _⟩
     ·rw [h4]; simp
     ·exact fun y hy => by have := h4 y hy; omega
    have ha : A = 2 ∨ A = 3 := h4.elim (fun z => .inl z.1) (fun z => .inr z.1)
    rw [eT] at hd hl ih
    obtain ⟨i1, i2, i3, i4, i5, i6, i7, i8⟩ := tst_back F hb hd hv ha
    have hT : (tstT (expS k K O N nx ou) A v).length ≥ 1 := by
     unfold tstT
     split <;> simp <;> omega
    have hF : tstF k K O k K O N nx ou A [] v = 0 := by
     unfold entF at he
     dsimp only at he
     rw [if_neg (by omega), if_pos c, e1, e2, e3, h3] at he
     exact he
    have y1 : (if hypY b (a + 2) = true then (2 : Int) else 3) = A := by
     by_cases d : A = 2
     ·rw [if_pos (i6.2 d), d]
     ·rw [if_neg (fun z => d (i6.1 z))]
      omega
    have y2 : (if hypY b (a + 2) = true then ([] : List Int) else roV (hypN b (a + 2))) = v := by
     by_cases d : A = 2
     ·rw [if_pos (i6.2 d)]
      rcases h4 with ⟨_, h4⟩ | ⟨z, _⟩
      ·exact h4.symm
      ·omega
     ·rw [if_neg (fun z => d (i6.1 z)), i7 (by omega)]
    unfold parsS
    rw [if_pos (by omega), if_neg (by rw [i1]; decide), isR_no (by rw [i1]; decide), if_pos i2, i3]
    dsimp only
    rw [if_neg i4, i8]
    dsimp only
    rw [y1, y2, i5]
    dsimp only
    rw [if_neg (by simpa using hF), ih]
    unfold normE
    rw [List.map_cons]
    dsimp only
    rw [if_neg (by omega), e1, e2, e3]
    simp

theorem first_back {k K O : Int} (H : HeadOk k K O) {b rest : List Int} (hd : b = lheadT k K O ++ rest) : firstL b (.inr 0) = (k, K, O, .inr (lheadT k K O).length) := by
 obtain ⟨H1, H2, H3, H4, H5⟩ := H
 have hd0 : b.drop 0 = lheadT k K O ++ rest := hd
 by_cases c : k = 2
 ·have e : lheadT k K O = [108, 111, 103, 32] ++ ([109] ++ ([101, 97, 108, 121, 32] ++ (itoaI K ++ ([32] ++ (itoaI O ++ [10]))))) := by
   unfold lheadT lnumS
   rw [if_pos c]
   simp
  rw [e] at hd0
  simp only [List.append_assoc] at hd0
  have d1 : b.drop 4 = [109] ++ ([101, 97, 108, 121, 32] ++ (itoaI K ++ ([32] ++ (itoaI O ++ ([10] ++ rest))))) := drop_next hd0
  have d2 : b.drop 5 = [101, 97, 108, 121, 32] ++ (itoaI K ++ ([32] ++ (itoaI O ++ ([10] ++ rest)))) := drop_next d1
  have d3 : b.drop 10 = itoaI K ++ ([32] ++ (itoaI O ++ ([10] ++ rest))) := drop_next d2
  have d4 : b.drop (10 + (itoaI K).length) = [32] ++ (itoaI O ++ ([10] ++ rest)) := drop_next d3
  have d5 : b.drop (10 + (itoaI K).length + 1) = itoaI O ++ ([10] ++ rest) := drop_next d4
  have d6 : b.drop (10 + (itoaI K).length + 1 + (itoaI O).length) = [10] ++ rest := drop_next d5
  have w1 : wnt [108, 111, 103, 32] b (.inr 0) = .inr 4 := wnt_back hd0
  have t : (b.drop 4).take 1 = [109] := by rw [d1]; rfl
  have i1 : isS [109] b (.inr 4) = true := decide_eq_true t
  have i2 : isR [109] b (.inr 4) = .inr 5 := if_pos t
  have w2 : wnt [101, 97, 108, 121, 32] b (.inr 5) = .inr 10 := wnt_back d2
  have n1 : nmb 64 1 b (.inr 10) = .inr (K, 10 + (itoaI K).length) := numbS_of d3 (noDig_sp _) (by omega) (by omega) (by omega) (by omega)
  have w3 : wnt [32] b (.inr (10 + (itoaI K).length)) = .inr (10 + (itoaI K).length + 1) := wnt_back d4
  have n2 : nmb 64 33 b (.inr (10 + (itoaI K).length + 1)) = .inr (O, 10 + (itoaI K).length + 1 + (itoaI O).length) := numbS_of d5 (noDig_nl _) (by omega) (by omega) (by omega) (by omega)
  have w4 : wnt [10] b (.inr (10 + (itoaI K).length + 1 + (itoaI O).length)) = .inr (10 + (itoaI K).length + 1 + (itoaI O).length + 1) := wnt_back d6
  unfold firstL
  rw [w1, i1, if_pos rfl, i2, w2, n1]
  show (2, K, nuV (nmb 64 33 b (wnt [32] b (.inr (10 + (itoaI K).length)))), wnt [10] b (nuR (nmb 64 33 b (wnt [32] b (.inr (10 + (itoaI K).length)))))) = _
  rw [w3, n2]
  show (2, K, O, wnt [10] b (.inr (10 + (itoaI K).length + 1 + (itoaI O).length))) = _
  rw [w4, e, c]
  simp only [List.length_append, List.length_cons, List.length_nil]
  congr 4
  omega
 ·have c1 : k = 1 := H1.resolve_right c
  have e : lheadT k K O = [108, 111, 103, 32] ++ ([100, 102, 97, 32] ++ (itoaI K ++ [10])) := by
   unfold lheadT lnumS
   rw [if_neg c]
   simp
  rw [e] at hd0
  simp only [List.append_assoc] at hd0
  have d1 : b.drop 4 = [100, 102, 97, 32] ++ (itoaI K ++ ([10] ++ rest)) := drop_next hd0
  have d3 : b.drop 8 = itoaI K ++ ([10] ++ rest) := drop_next d1
  have d6 : b.drop (8 + (itoaI K).length) = [10] ++ rest := drop_next d3
  have w1 : wnt [108, 111, 103, 32] b (.inr 0) = .inr 4 := wnt_back hd0
  have t : (b.drop 4).take 1 = [100] := by rw [d1]; rfl
  have i1 : isS [109] b (.inr 4) = false := by
   show decide ((b.drop 4).take 1 = [109]) = false
   rw [t]
   rfl
  have w2 : wnt [100, 102, 97, 32] b (.inr 4) = .inr 8 := wnt_back d1
  have n1 : nmb 64 1 b (.inr 8) = .inr (K, 8 + (itoaI K).length) := numbS_of d3 (noDig_nl _) (by omega) (by omega) (by omega) (by omega)
  have w4 : wnt [10] b (.inr (8 + (itoaI K).length)) = .inr (8 + (itoaI K).length + 1) := wnt_back d6
  unfold firstL
  rw [w1, i1, if_neg (by decide), isR_no (by rw [i1]; decide), w2, n1]
  show (1, K, 2, wnt [10] b (.inr (8 + (itoaI K).length))) = _
  rw [w4, e, c1, H3 c1]
  simp only [List.length_append, List.length_cons, List.length_nil]
  congr 4
  omega

theorem nmb_there {hi kd : Int} {b : List Int} {r : Rd Nat} {c : Nat} (h : nuR (nmb hi kd b r) = .inr c) : ∃ a, r = .inr a ∧ b.drop a = itoaI (nuV (nmb hi kd b r)) ++ b.drop c ∧ 1 ≤ nuV (nmb hi kd b r) ∧ nuV (nmb hi kd b r) ≤ hi := by
 cases r with
 |inl f => cases h
 |inr a =>
  have h : nuR (numbS 1 hi kd b a) = .inr c := h
  show ∃ a', (.inr a : Rd Nat) = .inr a' ∧ b.drop a' = itoaI (nuV (numbS 1 hi kd b a)) ++ b.drop c ∧ 1 ≤ nuV (numbS 1 hi kd b a) ∧ nuV (numbS 1 hi kd b a) ≤ hi
  cases hq : numbS 1 hi kd b a with
  |inl f => rw [hq] at h; cases h
  |inr q =>
   rw [hq] at h
   obtain rfl : q.2 = c := Sum.inr.inj h
   obtain ⟨_, g2, g3, g4⟩ := numbS_there hq
   exact ⟨a, rfl, g4, g2, g3⟩

theorem first_there {b : List Int} {a : Nat} (h : (firstL b (.inr 0)).2.2.2 = .inr a) : HeadOk (firstL b (.inr 0)).1 (firstL b (.inr 0)).2.1 (firstL b (.inr 0)).2.2.1 ∧ b = lheadT (firstL b (.inr 0)).1 (firstL b (.inr 0)).2.1 (firstL b (.inr 0)).2.2.1 ++ b.drop a := by
 unfold firstL at h ⊢
 by_cases c : isS [109] b (wnt [108, 111, 103, 32] b (.inr 0)) = true
 ·rw [if_pos c] at h ⊢
  dsimp only at h ⊢
  obtain ⟨c1, h1, g1⟩ := wnt_there h
  obtain ⟨c2, h2, g2, l2, u2⟩ := nmb_there h1
  obtain ⟨c3, h3, g3⟩ := wnt_there h2
  obtain ⟨c4, h4, g4, l4, u4⟩ := nmb_there h3
  obtain ⟨c5, h5, g5⟩ := wnt_there h4
  obtain ⟨c6, h6, _⟩ := isR_gt h5
  rw [h6] at c h5
  obtain ⟨g6, r6⟩ := is_there c
  rw [r6] at h5
  obtain rfl := Sum.inr.inj h5
  obtain ⟨c7, h7, g7⟩ := wnt_there h6
  obtain rfl : 0 = c7 := Sum.inr.inj h7
  refine ⟨⟨.inr rfl, ⟨l4, u4⟩, (fun z => (by cases z)), l2, u2⟩, ?_⟩
  unfold lheadT lnumS
  rw [if_pos rfl]
  have e0 : b = b.drop 0 := rfl
  conv => lhs; rw [e0, g7, g6, g5, g4, g3, g2, g1]
  simp
 ·rw [if_neg c] at h ⊢
  dsimp only at h ⊢
  obtain ⟨c1, h1, g1⟩ := wnt_there h
  obtain ⟨c4, h4, g4, l4, u4⟩ := nmb_there h1
  obtain ⟨c5, h5, g5⟩ := wnt_there h4
  rw [isR_no c] at h5
  obtain ⟨c7, h7, g7⟩ := wnt_there h5
  obtain rfl : 0 = c7 := Sum.inr.inj h7
  refine ⟨⟨.inl rfl, ⟨l4, u4⟩, fun z => rfl, by decide, by decide⟩, ?_⟩
  unfold lheadT lnumS
  rw [if_neg (by decide)]
  have e0 : b = b.drop 0 := rfl
  conv => lhs; rw [e0, g7, g5, g4, g1]
  simp

theorem parsS_there {k K O : Int} (H : HeadOk k K O) {b : List Int} : ∀ (n a : Nat) (acc l : List Ent), parsS k K O b n a acc = .inr l -> a ≤ b.length -> b.length + 1 ≤ n + a -> ∃ l', l = acc ++ l' ∧ b.drop a = entsT l' ∧ ∀ x ∈ l', (entF k K O x = 0 ∧ GoodE k K O x) ∧ okL x.1.2.2.2.2.2.2.1 ∧ okL x.1.2.2.2.2.2.2.2
 |0, a, acc, l, h, ha, hn => by omega
 |n + 1, a, acc, l, h, ha, hn => by
  unfold parsS at h
  by_cases hab : a < b.length
  ·rw [if_pos hab] at h
   by_cases h63 : isS [63] b (.inr a) = true
   ·rw [if_pos h63] at h
    have hok : okR b (memE b (isR [63] b (.inr a))) := memE_ok (is_ok (r := .inr a) ha)
    cases hE : memE b (isR [63] b (.inr a)) with
    |inl f => rw [hE] at h; cases h
    |inr c =>
     obtain ⟨g1, g2, g3⟩ := ask_there h63 hE
     rw [hE] at h hok
     have hcb : c ≤ b.length := hok
     obtain ⟨a0, e0, hc⟩ := memE_gt hE
     obtain ⟨a1, e1, ha1⟩ := isR_gt e0
     obtain rfl : a = a1 := Sum.inr.inj e1
     dsimp only at h
     split at h
     ·cases h
     ·rename_i hF
      obtain ⟨l', f1, f2, f3⟩ := parsS_there H n c _ l h hcb (by omega)
      have sn : okL ([] : List Int) := by decide
      have hz : entF k K O ((1, (roV (memW b (isR [63] b (.inr a))), (k, (K, (O, (0, ([], []))))))), (1, (roV (memO b (isR [63] b (.inr a))), []))) = 0 := by
       unfold entF
       rw [if_pos rfl]
       exact Decidable.not_not.1 hF
      refine ⟨_ :: l', by rw [f1, List.append_assoc]; rfl, ?_, fun x hx => ?_⟩
      ·rw [entsT_cons, ← f2]
       exact g1
      ·rcases List.mem_cons.1 hx with rfl | hx
       ·exact ⟨⟨hz, ent_good H sn sn hz⟩, sn, sn⟩
       ·exact f3 x hx
   ·rw [if_neg h63, isR_no h63] at h
    by_cases h33 : isS [33] b (.inr a) = true
    ·rw [if_pos h33] at h
     have ok1 : okR b (wnt [10] b (isR [33] b (.inr a))) := wnt_ok (is_ok (r := .inr a) ha)
     cases hW : wnt [10] b (isR [33] b (.inr a)) with
     |inl f => rw [hW] at h; cases h
     |inr d =>
      rw [hW] at h ok1
      have hdb : d ≤ b.length := ok1
      obtain ⟨d0, e0, ed⟩ := wnt_gt hW
      obtain ⟨a1, e1, ha1⟩ := isR_gt e0
      obtain rfl : a = a1 := Sum.inr.inj e1
      simp only [List.length_cons, List.length_nil] at ed
      dsimp only at h
      by_cases hbad : hypEnd b d < 0 ∨ (hypImp b d).e ≠ 0
      ·rw [if_pos hbad] at h
       cases h
      ·rw [if_neg hbad] at h
       have hzok := hypZ_ok (b := b) (a := d) ⟨by omega, hdb⟩
       cases hZ : hypZ b d with
       |inl f => rw [hZ] at h; cases h
       |inr c =>
        obtain ⟨F, g1, g3⟩ := tst_there h33 hW hbad hZ
        rw [hZ] at h hzok
        have hcb : c ≤ b.length := hzok
        have hgt := hypZ_gt hZ
        dsimp only at h
        generalize hTT : tstF k K O (hypImp b d).k (hypImp b d).K (hypImp b d).O (hypImp b d).N (hypImp b d).nx (hypImp b d).ou (if hypY b d = true then 2 else 3) [] (if hypY b d = true then [] else roV (hypN b d)) = T at h
        by_cases hT : T ≠ 0
        ·rw [if_pos hT] at h
         cases h
        ·rw [if_neg hT] at h
         obtain ⟨l', f1, f2, f3⟩ := parsS_there H n c _ l h hcb (by omega)
         obtain ⟨o1, o2⟩ := fine_okL F
         have hz : entF k K O ((2, ([], ((hypImp b d).k, ((hypImp b d).K, ((hypImp b d).O, ((hypImp b d).N, ((hypImp b d).nx, (hypImp b d).ou))))))), ((if hypY b d = true then 2 else 3), ([], (if hypY b d = true then [] else roV (hypN b d))))) = 0 := by
          unfold entF
          rw [if_neg (show ¬ ((2 : Int) = 1) by decide), if_pos rfl]
          exact hTT.trans (Decidable.not_not.1 hT)
         refine ⟨_ :: l', by rw [f1, List.append_assoc]; rfl, ?_, fun x hx => ?_⟩
         ·rw [entsT_cons, ← f2, g1]
          unfold entT
          rw [if_neg (show ¬ ((2 : Int) = 1) by decide), fine_export F]
         ·rcases List.mem_cons.1 hx with rfl | hx
          ·exact ⟨⟨hz, ent_good H o1 o2 hz⟩, o1, o2⟩
          ·exact f3 x hx
    ·rw [if_neg h33] at h
     cases h
  ·rw [if_neg hab] at h
   obtain rfl : acc = l := Sum.inr.inj h
   exact ⟨[], by simp, List.drop_of_length_le (by omega), by simp⟩

/-! ### Where faults are -/

def inT (b : List Int) (r : Rd Nat) : Prop := FltR b r ∧ okR b r

theorem inT_at {b : List Int} {a : Nat} (h : a ≤ b.length) : inT b (.inr a) := ⟨flt_ok b a, h⟩

theorem inT_wnt {s b : List Int} {r : Rd Nat} (h : inT b r) : inT b (wnt s b r) :=
 ⟨FltR.bind h.1 fun a ha => flt_want (by have := h.2; rw [ha] at this; exact this), wnt_ok h.2⟩

theorem inT_is {s b : List Int} {r : Rd Nat} (h : inT b r) : inT b (isR s b r) := by
 refine ⟨?_, is_ok h.2⟩
 cases r with
 |inl f => exact h.1
 |inr a =>
  intro e he
  have he : (if (b.drop a).take s.length = s then (.inr (a + s.length) : Rd Nat) else .inr a) = .inl e := he
  split at he <;> cases he

theorem lrow_flt {all : Bool} {b : List Int} : ∀ (n a : Nat) (acc : List Int), a ≤ b.length -> FltR b (lrow all b n a acc)
 |0, a, acc, ha => flt_ok b _
 |n + 1, a, acc, ha => by
  unfold lrow
  by_cases c : b[a]? = some 32 ∧ ¬ (all = false ∧ b[a + 1]? = some 61)
  ·rw [if_pos c]
   have h1 := (List.getElem?_eq_some_iff.1 c.1).1
   have h2 := numL_le (b.drop (a + 1))
   rw [List.length_drop] at h2
   by_cases c2 : (numL (b.drop (a + 1))).2.2 ≠ 0
   ·rw [if_pos c2]
    intro e he
    obtain rfl := Sum.inl.inj he
    exact ⟨c2, by simp; omega, by simp; omega⟩
   ·rw [if_neg c2]
    exact lrow_flt n _ _ (by omega)
  ·rw [if_neg c]
   exact flt_ok b _

theorem inT_row {all : Bool} {b : List Int} {r : Rd Nat} (h : inT b r) : inT b (roR (rowR all b r)) := by
 refine ⟨?_, row_ok h.2⟩
 have f : FltR b (rowR all b r) := FltR.bind h.1 fun a ha => lrow_flt _ _ _ (by have := h.2; rw [ha] at this; exact this)
 intro e he
 cases hq : rowR all b r with
 |inl f' =>
  rw [hq] at he
  obtain rfl : f' = e := Sum.inl.inj he
  exact f _ hq
 |inr q => rw [hq] at he; cases he

theorem inT_nmb {hi kd : Int} (hk : kd ≠ 0) {b : List Int} {r : Rd Nat} (h : inT b r) : inT b (nuR (nmb hi kd b r)) := by
 refine ⟨?_, nmb_ok hk h.2⟩
 have f : FltR b (nmb hi kd b r) := FltR.bind h.1 fun a ha => flt_numb hk (by have := h.2; rw [ha] at this; exact this)
 intro e he
 cases hq : nmb hi kd b r with
 |inl f' =>
  rw [hq] at he
  obtain rfl : f' = e := Sum.inl.inj he
  exact f _ hq
 |inr q => rw [hq] at he; cases he

theorem inT_first (b : List Int) : inT b (firstL b (.inr 0)).2.2.2 := by
 have h0 : inT b (isR [109] b (wnt [108, 111, 103, 32] b (.inr 0))) := inT_is (inT_wnt (inT_at (Nat.zero_le _)))
 unfold firstL
 split
 ·exact inT_wnt (inT_nmb (by decide) (inT_wnt (inT_nmb (by decide) (inT_wnt h0))))
 ·exact inT_wnt (inT_nmb (by decide) (inT_wnt h0))

theorem inT_memE {b : List Int} {r : Rd Nat} (h : inT b r) : inT b (memE b r) := inT_wnt (inT_row (inT_wnt (inT_row h)))

theorem inT_hypM {b : List Int} (hs : b.length ≤ 16777216) {a : Nat} (ha : 1 ≤ a ∧ a ≤ b.length) : inT b (hypM b a) := by
 refine ⟨?_, hypM_ok ha⟩
 unfold hypM
 by_cases h : hypEnd b a < 0
 ·rw [if_pos h]
  intro e he
  obtain rfl := Sum.inl.inj he
  exact ⟨(by decide : (6 : Int) ≠ 0), by simp, by simp⟩
 ·rw [if_neg h]
  have hr := hypEnd_room ha h
  have hp := impS_pl ((b.drop a).take (hypEnd b a).toNat)
  rw [List.length_take, List.length_drop] at hp
  have hp2 : (hypImp b a).p = (impS ((b.drop a).take (hypEnd b a).toNat)).p := rfl
  by_cases h2 : (hypImp b a).e ≠ 0
  ·rw [if_pos h2]
   intro e he
   obtain rfl := Sum.inl.inj he
   have w := wr ((a : Int) + (hypImp b a).p) (by omega) (by omega)
   exact ⟨h2, by show 0 ≤ IntKind.i64.wrap ((a : Int) + (hypImp b a).p); omega, by show IntKind.i64.wrap ((a : Int) + (hypImp b a).p) ≤ _; omega⟩
  ·rw [if_neg h2]
   exact flt_ok b _

theorem inT_hypZ {b : List Int} (hs : b.length ≤ 16777216) {a : Nat} (ha : 1 ≤ a ∧ a ≤ b.length) : inT b (hypZ b a) := by
 have k1 : inT b (isR [121] b (wnt [61, 32] b (hypM b a))) := inT_is (inT_wnt (inT_hypM hs ha))
 unfold hypZ
 split
 ·exact inT_wnt k1
 ·exact inT_wnt (inT_row (inT_wnt k1))

theorem parsS_flt {k K O : Int} {b : List Int} (hs : b.length ≤ 16777216) : ∀ (n a : Nat) (acc : List Ent) (f : Int × Int), parsS k K O b n a acc = .inl f -> a ≤ b.length -> f.1 ≠ 0 ∧ 0 ≤ f.2 ∧ f.2 ≤ (b.length : Int)
 |0, a, acc, f, h, ha => by cases h
 |n + 1, a, acc, f, h, ha => by
  unfold parsS at h
  by_cases hab : a < b.length
  ·rw [if_pos hab] at h
   by_cases h63 : isS [63] b (.inr a) = true
   ·rw [if_pos h63] at h
    have hin : inT b (memE b (isR [63] b (.inr a))) := inT_memE (inT_is (inT_at ha))
    cases hE : memE b (isR [63] b (.inr a)) with
    |inl g =>
     rw [hE] at h hin
     obtain rfl : g = f := Sum.inl.inj h
     exact hin.1 _ rfl
    |inr c =>
     rw [hE] at h hin
     have hcb : c ≤ b.length := hin.2
     dsimp only at h
     split at h
     ·rename_i hF
      obtain rfl := Sum.inl.inj h
      exact ⟨hF, by simp, by simp; omega⟩
     ·exact parsS_flt hs n c _ f h hcb
   ·rw [if_neg h63, isR_no h63] at h
    by_cases h33 : isS [33] b (.inr a) = true
    ·rw [if_pos h33] at h
     have hin : inT b (wnt [10] b (isR [33] b (.inr a))) := inT_wnt (inT_is (inT_at ha))
     cases hW : wnt [10] b (isR [33] b (.inr a)) with
     |inl g =>
      rw [hW] at h hin
      obtain rfl : g = f := Sum.inl.inj h
      exact hin.1 _ rfl
     |inr d =>
      rw [hW] at h hin
      have hdb : d ≤ b.length := hin.2
      obtain ⟨d0, e0, ed⟩ := wnt_gt hW
      simp only [List.length_cons, List.length_nil] at ed
      dsimp only at h
      by_cases hbad : hypEnd b d < 0 ∨ (hypImp b d).e ≠ 0
      ·rw [if_pos hbad] at h
       obtain rfl := Sum.inl.inj h
       have hM := (inT_hypM hs (a := d) ⟨by omega, hdb⟩).1
       have hb2 := hypM_bad hbad
       cases hq : hypM b d with
       |inl g => exact hM g hq
       |inr z =>
        rw [hq] at hb2
        exact absurd rfl hb2
      ·rw [if_neg hbad] at h
       have hz := inT_hypZ hs (b := b) (a := d) ⟨by omega, hdb⟩
       cases hZ : hypZ b d with
       |inl g =>
        rw [hZ] at h hz
        obtain rfl : g = f := Sum.inl.inj h
        exact hz.1 _ rfl
       |inr c =>
        rw [hZ] at h hz
        have hcb : c ≤ b.length := hz.2
        dsimp only at h
        generalize tstF k K O (hypImp b d).k (hypImp b d).K (hypImp b d).O (hypImp b d).N (hypImp b d).nx (hypImp b d).ou (if hypY b d = true then 2 else 3) [] (if hypY b d = true then [] else roV (hypN b d)) = T at h
        by_cases hT : T ≠ 0
        ·rw [if_pos hT] at h
         obtain rfl := Sum.inl.inj h
         exact ⟨hT, by simp, by simp; omega⟩
        ·rw [if_neg hT] at h
         exact parsS_flt hs n c _ f h hcb
    ·rw [if_neg h33] at h
     obtain rfl := Sum.inl.inj h
     exact ⟨(by decide : (6 : Int) ≠ 0), by simp, by simp; omega⟩
  ·rw [if_neg hab] at h
   cases h

theorem parse_flt {b : List Int} (h : (parseT b).2.2.2.1 ≠ 0) : (parseT b).1 = 0 ∧ (parseT b).2.2.2.2.2 = [] ∧ 0 ≤ (parseT b).2.2.2.2.1 ∧ (parseT b).2.2.2.2.1 ≤ (b.length : Int) := by
 unfold parseT at h ⊢
 by_cases h1 : (b.length : Int) > 16777216
 ·rw [if_pos h1]
  exact ⟨rfl, rfl, by simp, by simp⟩
 rw [if_neg h1] at h ⊢
 by_cases h2 : nentS b > 65536
 ·rw [if_pos h2]
  exact ⟨rfl, rfl, by simp, by simp⟩
 rw [if_neg h2] at h ⊢
 have hin := inT_first b
 cases hr : (firstL b (.inr 0)).2.2.2 with
 |inl f =>
  rw [hr] at hin
  have := hin.1 f rfl
  exact ⟨rfl, rfl, this.2.1, this.2.2⟩
 |inr a =>
  rw [hr] at h hin
  have ha : a ≤ b.length := hin.2
  dsimp only at h ⊢
  cases hp : parsS (firstL b (.inr 0)).1 (firstL b (.inr 0)).2.1 (firstL b (.inr 0)).2.2.1 b (b.length + 1) a [] with
  |inl f =>
   have := parsS_flt (by omega) _ _ _ _ hp ha
   exact ⟨rfl, rfl, this.2.1, this.2.2⟩
  |inr l =>
   rw [hp] at h
   exact absurd rfl h

theorem ents_len (l : List Ent) : l.length ≤ (entsT l).length := by
 induction l with
 |nil => simp
 |cons x z ih =>
  have : 1 ≤ (entT x).length := by
   unfold entT askT tstT
   split
   ·simp
   ·split <;> simp <;> omega
  rw [entsT_cons, List.length_append, List.length_cons]
  omega

theorem parse_there {b : List Int} (h : (parseT b).2.2.2.1 = 0) (hb : isB8 b) (hl : b.length ≤ 20000) :
  lcheckS (parseT b).1 (parseT b).2.1 (parseT b).2.2.1 (parseT b).2.2.2.2.2 = (((parseT b).2.2.2.2.2.length : Int), 0) ∧
  lheadT (parseT b).1 (parseT b).2.1 (parseT b).2.2.1 ++ entsT (parseT b).2.2.2.2.2 = b ∧
  (parseT b).2.2.2.2.2.length ≤ b.length ∧
  ∀ x ∈ (parseT b).2.2.2.2.2, (entF (parseT b).1 (parseT b).2.1 (parseT b).2.2.1 x = 0 ∧ GoodE (parseT b).1 (parseT b).2.1 (parseT b).2.2.1 x) ∧ okL x.1.2.2.2.2.2.2.1 ∧ okL x.1.2.2.2.2.2.2.2 := by
 unfold parseT at h ⊢
 by_cases h1 : (b.length : Int) > 16777216
 ·omega
 rw [if_neg h1] at h ⊢
 by_cases h2 : nentS b > 65536
 ·rw [if_pos h2] at h
  cases h
 rw [if_neg h2] at h ⊢
 have hok := firstL_ok (b := b) (r := .inr 0) (Nat.zero_le _)
 cases hr : (firstL b (.inr 0)).2.2.2 with
 |inl f =>
  rw [hr] at h hok
  exact absurd h hok
 |inr a =>
  rw [hr] at h hok
  have ha : a ≤ b.length := hok
  obtain ⟨H, g⟩ := first_there hr
  dsimp only at h ⊢
  generalize (firstL b (.inr 0)).1 = k at *
  generalize (firstL b (.inr 0)).2.1 = K at *
  generalize (firstL b (.inr 0)).2.2.1 = O at *
  cases hp : parsS k K O b (b.length + 1) a [] with
  |inl f =>
   rw [hp] at h
   exact absurd h (parsS_flt (by omega) _ _ _ _ hp ha).1
  |inr l =>
   dsimp only
   obtain ⟨l', f1, f2, f3⟩ := parsS_there H _ _ _ _ hp ha (by omega)
   rw [List.nil_append] at f1
   subst f1
   have hlen : l.length ≤ b.length := by
    have := ents_len l
    rw [← f2, List.length_drop] at this
    omega
   refine ⟨?_, by rw [← f2]; exact g.symm, hlen, f3⟩
   unfold lcheckS
   rw [if_neg (by simpa using lheadS_zero.2 ⟨H.1, H.2.1, H.2.2.1, H.2.2.2, by omega⟩), chkF_ok l 0 fun x hx => (f3 x hx).1.1]
   simp

/-! ### What is shown is parsed as it was -/

def cq (l : List Int) : Nat := l.count 63 + l.count 33
theorem cq_app (a b : List Int) : cq (a ++ b) = cq a + cq b := by
 unfold cq
 rw [List.count_append, List.count_append]
 omega
theorem cq_plain {l : List Int} (h : ∀ c ∈ l, plainC c) : cq l = 0 := by
 unfold cq
 rw [List.count_eq_zero_of_not_mem fun q => (h _ q).2.1 rfl, List.count_eq_zero_of_not_mem fun q => (h _ q).2.2 rfl]
theorem lnumS_plain (l : List Int) : ∀ c ∈ lnumS l, plainC c := by
 induction l with
 |nil => intro c hc; cases hc
 |cons x xs ih =>
  intro c hc
  rw [lnumS_cons] at hc
  rcases List.mem_append.1 hc with hc | hc
  ·rcases List.mem_cons.1 hc with rfl | hc
   ·decide
   ·exact plain_itoa x c hc
  ·exact ih c hc

theorem exp_B8 (k K O N : Int) (nx ou : List Int) : isB8 (expS k K O N nx ou) := exp_all (P := fun c => 0 ≤ c ∧ c < 256) (fun n => isB8_itoa n) (by decide)

theorem entT_facts {k K O : Int} {x : Ent} (h : GoodE k K O x) (hN : x.1.2.2.2.2.2.1 ≤ 30) : isB8 (entT x) ∧ cq (entT x) = 1 ∧ (entT x).length ≤ 200000 := by
 have sm : ∀ l : List Int, (∀ y ∈ l, 0 ≤ y ∧ y < 64) -> l.length ≤ 4096 -> (lnumS l).length ≤ 90112 := fun l h1 h2 => by
  have := lnumS_len (l := l) fun y hy => by have := h1 y hy; unfold inI; omega
  omega
 rcases entT_good h with ⟨c, e⟩ | ⟨c, e⟩
 ·rcases h with ⟨h1, h2, h3, ⟨h4, h5⟩, h6, h7⟩ | ⟨h1, _⟩
  ·have l1 := sm _ h4 h5
   have l2 := sm _ h6 h7
   rw [e]
   unfold askT
   refine ⟨isB8_app (isB8_app (isB8_app (isB8_app (by decide) (lnumS_B8 _)) (by decide)) (lnumS_B8 _)) (by decide), ?_, ?_⟩
   ·rw [cq_app, cq_app, cq_app, cq_app, cq_plain (lnumS_plain _), cq_plain (lnumS_plain _)]
    rfl
   ·simp only [List.length_append, List.length_cons, List.length_nil]
    omega
  ·omega
 ·rcases h with ⟨h1, _⟩ | ⟨h1, ⟨e1, e2, e3, F⟩, h3, h4⟩
  ·omega
  ·have lv : (lnumS x.2.2.2).length ≤ 90112 := by
    rcases h4 with ⟨_, h4⟩ | ⟨_, h4, h5⟩
    ·rw [h4]
     simp [lnumS]
    ·exact sm _ h4 h5
   have lx : (expS k K O x.1.2.2.2.2.2.1 x.1.2.2.2.2.2.2.1 x.1.2.2.2.2.2.2.2).length ≤ 90100 := by
    obtain ⟨⟨_, o1⟩, _, o2⟩ := fine_okL F
    have a := expRows_len (k := k) o1 o2 F.fK.2 x.1.2.2.2.2.2.1.toNat
    have b := expHead_len (k := k) (K := K) (O := O) (N := x.1.2.2.2.2.2.1) (by have := F.fK; unfold inI; omega) (by have := F.fO; unfold inI; omega) (by have := F.fN; unfold inI; omega)
    unfold expS
    rw [List.length_append]
    omega
   rw [e]
   unfold tstT
   by_cases d : x.2.1 = 2
   ·rw [if_pos d]
    refine ⟨isB8_app (isB8_app (isB8_app (by decide) (exp_B8 _ _ _ _ _ _)) (by decide)) (by decide), ?_, ?_⟩
    ·rw [cq_app, cq_app, cq_app, cq_plain exp_plain]
     rfl
    ·simp only [List.length_append, List.length_cons, List.length_nil]
     omega
   ·rw [if_neg d]
    refine ⟨isB8_app (isB8_app (isB8_app (isB8_app (isB8_app (by decide) (exp_B8 _ _ _ _ _ _)) (by decide)) (by decide)) (lnumS_B8 _)) (by decide), ?_, ?_⟩
    ·rw [cq_app, cq_app, cq_app, cq_app, cq_app, cq_plain exp_plain, cq_plain (lnumS_plain _)]
     rfl
    ·simp only [List.length_append, List.length_cons, List.length_nil]
     omega

theorem entsT_facts {k K O : Int} : ∀ l : List Ent, (∀ x ∈ l, GoodE k K O x ∧ x.1.2.2.2.2.2.1 ≤ 30) -> isB8 (entsT l) ∧ cq (entsT l) = l.length ∧ (entsT l).length ≤ 200000 * l.length
 |[], h => ⟨(fun x hx => (by cases hx)), rfl, by simp [entsT]⟩
 |x :: l, h => by
  obtain ⟨g1, g2⟩ := h x (by simp)
  obtain ⟨a1, a2, a3⟩ := entT_facts g1 g2
  obtain ⟨b1, b2, b3⟩ := entsT_facts l fun y hy => h y (by simp [hy])
  rw [entsT_cons, cq_app, List.length_append, List.length_cons]
  exact ⟨isB8_app a1 b1, by omega, by omega⟩

theorem lheadT_facts {k K O : Int} (H : HeadOk k K O) : isB8 (lheadT k K O) ∧ cq (lheadT k K O) = 0 ∧ (lheadT k K O).length ≤ 100 := by
 obtain ⟨H1, H2, H3, H4, H5⟩ := H
 have l1 := lnumS_len (l := [K]) (by unfold inI; simp; omega)
 have l2 := lnumS_len (l := [K, O]) (by unfold inI; simp; omega)
 simp only [List.length_cons, List.length_nil] at l1 l2
 unfold lheadT
 split
 ·refine ⟨isB8_app (isB8_app (by decide) (lnumS_B8 _)) (by decide), ?_, ?_⟩
  ·rw [cq_app, cq_app, cq_plain (lnumS_plain _)]
   rfl
  ·simp only [List.length_append, List.length_cons, List.length_nil]
   omega
 ·refine ⟨isB8_app (isB8_app (by decide) (lnumS_B8 _)) (by decide), ?_, ?_⟩
  ·rw [cq_app, cq_app, cq_plain (lnumS_plain _)]
   rfl
  ·simp only [List.length_append, List.length_cons, List.length_nil]
   omega

theorem show_back {k K O : Int} (H : HeadOk k K O) {l : List Ent} (hl : l.length ≤ 60) (h : ∀ x ∈ l, entF k K O x = 0 ∧ GoodE k K O x) (hN : ∀ x ∈ l, x.1.2.2.2.2.2.1 ≤ 30) :
  isB8 (lheadT k K O ++ entsT l) ∧ parseT (lheadT k K O ++ entsT l) = (k, K, O, 0, ((lheadT k K O ++ entsT l).length : Int), l.map (normE k K O)) := by
 obtain ⟨a1, a2, a3⟩ := lheadT_facts H
 obtain ⟨b1, b2, b3⟩ := entsT_facts l fun x hx => ⟨(h x hx).2, hN x hx⟩
 have hb : isB8 (lheadT k K O ++ entsT l) := isB8_app a1 b1
 have hlen : (lheadT k K O ++ entsT l).length ≤ 16777216 := by rw [List.length_append]; omega
 refine ⟨hb, ?_⟩
 have hn : ¬ nentS (lheadT k K O ++ entsT l) > 65536 := by
  have := nentS_le hb hlen
  have c := cq_app (lheadT k K O) (entsT l)
  unfold cq at c a2 b2
  omega
 have hf := first_back H (b := lheadT k K O ++ entsT l) rfl
 have hd : (lheadT k K O ++ entsT l).drop (lheadT k K O).length = entsT l := List.drop_left
 unfold parseT
 rw [if_neg (by omega), if_neg hn, hf]
 dsimp only
 rw [parsS_back hb l _ _ [] hd h (by
  have := ents_len l
  rw [List.length_append]
  omega)]
 rfl

end Go.Ev
