/- What a teacher answers is right, and true of her machine. -/
import Derived.Test.YtjjdadbbiciigaaGreatDoorTrEvSep
import Derived.Test.YtjjdadbbiciigaaGreatDoorTrEvLogD
namespace Go.Ev
open Go.Proofs
set_option linter.unusedVariables false
set_option linter.unusedSimpArgs false

def tellS (k K O N : Int) (nx ou : List Int) (q : Int) (w : List Int) (k' K' O' N' : Int) (nx' ou' : List Int) : Int × Int × List Int × List Int :=
 if (checkR k K O N nx ou).2 ≠ 0 then (0, (checkR k K O N nx ou).2, [], [])
 else if q = 1 then (if (fromS k K O N nx ou 0 w).2.1 ≠ 0 then (0, (fromS k K O N nx ou 0 w).2.1, [], []) else (1, 0, (fromS k K O N nx ou 0 w).2.2, []))
 else if q = 2 then (if (sepS k K O N nx ou k' K' O' N' nx' ou').2.1 ≠ 0 then (0, (sepS k K O N nx ou k' K' O' N' nx' ou').2.1, [], [])
  else if (sepS k K O N nx ou k' K' O' N' nx' ou').1 = true then (3, 0, [], (sepS k K O N nx ou k' K' O' N' nx' ou').2.2) else (2, 0, [], []))
 else (0, 30, [], [])

theorem tell_member {k K O N : Int} {nx ou : List Int} {w : List Int} {k' K' O' N' : Int} {nx' ou' : List Int} (h : (tellS k K O N nx ou 1 w k' K' O' N' nx' ou').2.1 = 0) :
  teachC 1 w k K O (tellS k K O N nx ou 1 w k' K' O' N' nx' ou').1 (tellS k K O N nx ou 1 w k' K' O' N' nx' ou').2.2.1 (tellS k K O N nx ou 1 w k' K' O' N' nx' ou').2.2.2 = 0 := by
 unfold tellS at h ⊢
 by_cases c1 : (checkR k K O N nx ou).2 = 0
 ·rw [if_neg (by simpa using c1), if_pos rfl] at h ⊢
  by_cases c2 : (fromS k K O N nx ou 0 w).2.1 = 0
  ·rw [if_neg (by simpa using c2)] at h ⊢
   have F := checkR_fine.1 c1
   have hN := F.fN
   have hw : (wordS K w).2 = 0 := by
    unfold fromS at c2
    rw [if_neg (by simpa using c1), if_neg (by omega)] at c2
    by_cases hw : (wordS K w).2 = 0
    ·exact hw
    ·rw [if_pos hw] at c2
     exact absurd c2 hw
   rw [fromS_fine F (by omega) hw]
   have ho := end_out F (s := 0) (by omega) (w := w) (wordS_zero.1 hw).2.2
   unfold teachC
   rw [if_neg (by omega), if_neg (by omega), if_pos]
   refine ⟨rfl, rfl, ?_⟩
   rcases F.fk with hk | hk
   ·exact .inl ⟨hk, ho.1 hk⟩
   ·exact .inr ⟨hk, ho.2 hk⟩
  ·rw [if_pos (by simpa using c2)] at h
   exact absurd h c2
 ·rw [if_pos (by simpa using c1)] at h
  exact absurd h c1

theorem tell_hypo {k K O N : Int} {nx ou : List Int} {k' K' O' N' : Int} {nx' ou' : List Int} (h1 : okL nx) (h2 : okL ou) (h3 : okL nx') (h4 : okL ou') (hb : N ≤ 60) (hb' : N' ≤ 60)
  (h : (tellS k K O N nx ou 2 [] k' K' O' N' nx' ou').2.1 = 0) :
  teachC 2 [] k' K' O' (tellS k K O N nx ou 2 [] k' K' O' N' nx' ou').1 (tellS k K O N nx ou 2 [] k' K' O' N' nx' ou').2.2.1 (tellS k K O N nx ou 2 [] k' K' O' N' nx' ou').2.2.2 = 0 ∧
  (((sepS k K O N nx ou k' K' O' N' nx' ou').1 = true ∧ (tellS k K O N nx ou 2 [] k' K' O' N' nx' ou').1 = 3 ∧ (fromS k K O N nx ou 0 (tellS k K O N nx ou 2 [] k' K' O' N' nx' ou').2.2.2).2.2 ≠ (fromS k' K' O' N' nx' ou' 0 (tellS k K O N nx ou 2 [] k' K' O' N' nx' ou').2.2.2).2.2) ∨
   ((sepS k K O N nx ou k' K' O' N' nx' ou').1 = false ∧ (tellS k K O N nx ou 2 [] k' K' O' N' nx' ou').1 = 2)) := by
 unfold tellS at h ⊢
 by_cases c1 : (checkR k K O N nx ou).2 = 0
 ·rw [if_neg (by simpa using c1), if_neg (by omega), if_pos rfl] at h ⊢
  by_cases c2 : (sepS k K O N nx ou k' K' O' N' nx' ou').2.1 = 0
  ·rw [if_neg (by simpa using c2)] at h ⊢
   have hf : fitS k K O N nx ou k' K' O' N' nx' ou' = 0 := by
    unfold sepS at c2
    by_cases hf : fitS k K O N nx ou k' K' O' N' nx' ou' = 0
    ·exact hf
    ·rw [if_pos hf] at c2
     exact absurd c2 hf
   obtain ⟨A, B, rfl, rfl, rfl⟩ := (fitS_zero h1 h2 h3 h4).1 hf
   have e : sepS k K O N nx ou k K O N' nx' ou' = ((searchS ⟨k, K, N, N', nx, ou, nx', ou'⟩ (0, 0)).1, 0, (searchS ⟨k, K, N, N', nx, ou, nx', ou'⟩ (0, 0)).2) := by
    unfold sepS
    rw [if_neg (by simpa using hf)]
   have hN := A.fN
   have hN' := B.fN
   have FD : (⟨k, K, N, N', nx, ou, nx', ou'⟩ : Duo).Fine := ⟨⟨_, A⟩, ⟨_, B⟩⟩
   have hin : (⟨k, K, N, N', nx, ou, nx', ou'⟩ : Duo).inn (0, 0) := ⟨by dsimp only; omega, by dsimp only; omega⟩
   have hF := search_found FD hin
   have hlen := searchS_len FD hin
   rw [e]
   dsimp only
   cases hr : (searchS ⟨k, K, N, N', nx, ou, nx', ou'⟩ (0, 0)).1 with
   |true =>
    rw [if_pos rfl]
    obtain ⟨hv, ht, _⟩ := hF.yes hr
    dsimp only at hlen
    generalize (searchS ⟨k, K, N, N', nx, ou, nx', ou'⟩ (0, 0)).2 = v at *
    have hNN : N * N' ≤ 60 * 60 := by
     have e1 : N * N' ≤ 60 * N' := Int.mul_le_mul_of_nonneg_right hb (by omega)
     omega
    have hw : (wordS K v).2 = 0 := wordS_zero.2 ⟨A.fK, by omega, hv⟩
    constructor
    ·unfold teachC
     rw [if_neg (by omega), if_pos rfl, if_pos]
     exact ⟨rfl, .inr ⟨rfl, hw⟩⟩
    ·refine .inl ⟨rfl, rfl, ?_⟩
     try dsimp only
     rw [fromS_fine A (by omega) hw, fromS_fine B (by omega) hw]
     intro he
     have := (end_tel (D := ⟨k, K, N, N', nx, ou, nx', ou'⟩) A.fk (0, 0) v).1 he
     rw [this] at ht
     cases ht
   |false =>
    rw [if_neg (by decide)]
    constructor
    ·unfold teachC
     rw [if_neg (by omega), if_pos rfl, if_pos]
     exact ⟨rfl, .inl ⟨rfl, rfl⟩⟩
    ·exact .inr ⟨rfl, rfl⟩
  ·rw [if_pos (by simpa using c2)] at h
   exact absurd h c2
 ·rw [if_pos (by simpa using c1)] at h
  exact absurd h c1

def askTr (k K O N : Int) (nx ou w o : List Int) : Bool := decide ((fromS k K O N nx ou 0 w).2.2 = o)

theorem fromS_sh (k K O N : Int) (nx ou : List Int) (s : Int) (w : List Int) : short (fromS k K O N nx ou s w).2.2 := by
 have := from_short (k := k) (K := K) (O := O) (N := N) (nx := nx) (ou := ou) (s := s) (w := w)
 unfold short
 omega

def tstTr (k K O N : Int) (nx ou : List Int) (k' K' O' N' : Int) (nx' ou' : List Int) (a : Int) (v : List Int) : Bool :=
 if a = 2 then decide ((sepS k K O N nx ou k' K' O' N' nx' ou').2.1 = 0) && !(sepS k K O N nx ou k' K' O' N' nx' ou').1
 else !decide ((fromS k K O N nx ou 0 v).2.2 = (fromS k' K' O' N' nx' ou' 0 v).2.2)

def truE (k K O N : Int) (nx ou : List Int) (x : Ent) : Bool :=
 if x.1.1 = 1 then askTr k K O N nx ou x.1.2.1 x.2.2.1 else tstTr k K O N nx ou x.1.2.2.1 x.1.2.2.2.1 x.1.2.2.2.2.1 x.1.2.2.2.2.2.1 x.1.2.2.2.2.2.2.1 x.1.2.2.2.2.2.2.2 x.2.1 x.2.2.2

def agrL (k K O N : Int) (nx ou : List Int) : List Ent -> Nat -> Int × Bool
 |[], i => ((i : Int), true)
 |x :: xs, i => if truE k K O N nx ou x = true then agrL k K O N nx ou xs (i + 1) else ((i : Int), false)

def agrS (k K O : Int) (l : List Ent) (k' K' O' N' : Int) (nx ou : List Int) : Int × Bool × Int :=
 if (lcheckS k K O l).2 ≠ 0 then ((lcheckS k K O l).1, false, (lcheckS k K O l).2)
 else if (checkR k' K' O' N' nx ou).2 ≠ 0 then (0, false, (checkR k' K' O' N' nx ou).2)
 else if alikeS k K O k' K' O' ≠ 0 then (0, false, alikeS k K O k' K' O')
 else ((agrL k' K' O' N' nx ou l 0).1, (agrL k' K' O' N' nx ou l 0).2, 0)

theorem alikeS_same (k K O : Int) : alikeS k K O k K O = 0 := by
 unfold alikeS
 rw [if_neg (by simp), if_neg (by simp), if_neg (by simp)]

theorem fine_head {k K O N : Int} {nx ou : List Int} (F : Fine k K O N nx ou) {n : Nat} (hn : n ≤ 65536) : lheadS k K O n = 0 := lheadS_zero.2 ⟨F.fk, F.fK, F.fO2, F.fO, hn⟩

def told (k K O N : Int) (nx ou : List Int) (x : Ent) : Prop :=
 entF k K O x = 0 ∧ truE k K O N nx ou x = true ∧ okEnt x ∧ okL x.1.2.2.2.2.2.2.1 ∧ okL x.1.2.2.2.2.2.2.2 ∧ (x.1.1 = 1 -> x.2.2.1.length ≤ 4096 ∧ x.2.2.2 = [])

theorem told_ask {k K O N : Int} {nx ou : List Int} {w : List Int} (h : (tellS k K O N nx ou 1 w 0 0 0 0 [] []).2.1 = 0) :
  told k K O N nx ou ((1, (w, (0, (0, (0, (0, ([], []))))))), ((tellS k K O N nx ou 1 w 0 0 0 0 [] []).1, ((tellS k K O N nx ou 1 w 0 0 0 0 [] []).2.2.1, (tellS k K O N nx ou 1 w 0 0 0 0 [] []).2.2.2))) := by
 have hT := tell_member h
 by_cases c1 : (checkR k K O N nx ou).2 = 0
 ·by_cases c2 : (fromS k K O N nx ou 0 w).2.1 = 0
  ·have e : tellS k K O N nx ou 1 w 0 0 0 0 [] [] = (1, 0, (fromS k K O N nx ou 0 w).2.2, []) := by
    unfold tellS
    rw [if_neg (by simpa using c1), if_pos rfl, if_neg (by simpa using c2)]
   rw [e] at hT ⊢
   dsimp only at hT ⊢
   have F := checkR_fine.1 c1
   have hN := F.fN
   have hw : (wordS K w).2 = 0 := by
    unfold fromS at c2
    rw [if_neg (by simpa using c1), if_neg (by omega)] at c2
    by_cases hw : (wordS K w).2 = 0
    ·exact hw
    ·rw [if_pos hw] at c2
     exact absurd c2 hw
   have hl := from_short (k := k) (K := K) (O := O) (N := N) (nx := nx) (ou := ou) (s := 0) (w := w)
   have sn : okL ([] : List Int) := by decide
   refine ⟨?_, ?_, ⟨⟨by show (fromS k K O N nx ou 0 w).2.2.length ≤ _; omega, by simp⟩, sn.1, sn.1⟩, sn, sn, fun _ => ⟨hl, rfl⟩⟩
   ·unfold entF askF
    rw [if_pos rfl, if_neg (by simpa using hw)]
    exact hT
   ·unfold truE askTr
    rw [if_pos rfl]
    exact decide_eq_true rfl
  ·exfalso
   unfold tellS at h
   rw [if_neg (by simpa using c1), if_pos rfl, if_pos c2] at h
   exact c2 h
 ·exfalso
  unfold tellS at h
  rw [if_pos c1] at h
  exact c1 h

theorem told_tst {k K O N : Int} {nx ou : List Int} {k' K' O' N' : Int} {nx' ou' : List Int} (h1 : okL nx) (h2 : okL ou) (h3 : okL nx') (h4 : okL ou') (hb : N ≤ 60) (hb' : N' ≤ 60) (h : (tellS k K O N nx ou 2 [] k' K' O' N' nx' ou').2.1 = 0) :
  told k K O N nx ou ((2, ([], (k', (K', (O', (N', (nx', ou'))))))), ((tellS k K O N nx ou 2 [] k' K' O' N' nx' ou').1, ((tellS k K O N nx ou 2 [] k' K' O' N' nx' ou').2.2.1, (tellS k K O N nx ou 2 [] k' K' O' N' nx' ou').2.2.2))) := by
 obtain ⟨hT, hR⟩ := tell_hypo h1 h2 h3 h4 hb hb' h
 have hfit : (sepS k K O N nx ou k' K' O' N' nx' ou').2.1 = 0 := by
  unfold tellS at h
  by_cases c1 : (checkR k K O N nx ou).2 = 0
  ·rw [if_neg (by simpa using c1), if_neg (by omega), if_pos rfl] at h
   by_cases c2 : (sepS k K O N nx ou k' K' O' N' nx' ou').2.1 = 0
   ·exact c2
   ·rw [if_pos c2] at h
    exact h
  ·rw [if_pos c1] at h
   exact absurd h c1
 have hf : fitS k K O N nx ou k' K' O' N' nx' ou' = 0 := by
  unfold sepS at hfit
  by_cases hf : fitS k K O N nx ou k' K' O' N' nx' ou' = 0
  ·exact hf
  ·rw [if_pos hf] at hfit
   exact absurd hfit hf
 obtain ⟨A, B, rfl, rfl, rfl⟩ := (fitS_zero h1 h2 h3 h4).1 hf
 generalize hX : tellS k K O N nx ou 2 [] k K O N' nx' ou' = t at *
 obtain ⟨ta, te, to, tv⟩ := t
 dsimp only at hT hR ⊢
 have hTT : to = [] ∧ ((ta = 2 ∧ tv = []) ∨ (ta = 3 ∧ (wordS K tv).2 = 0)) := by
  unfold teachC at hT
  rw [if_neg (by omega), if_pos rfl] at hT
  split at hT
  ·rename_i c
   refine ⟨List.eq_nil_of_length_eq_zero c.1, ?_⟩
   rcases c.2 with c | c
   ·exact .inl ⟨c.1, List.eq_nil_of_length_eq_zero c.2⟩
   ·exact .inr c
  ·cases hT
 have lv : tv.length ≤ 4096 := by
  rcases hTT.2 with ⟨_, z⟩ | ⟨_, z⟩
  ·rw [z]; simp
  ·exact (wordS_zero.1 z).2.1
 refine ⟨?_, ?_, ⟨⟨by rw [hTT.1]; simp, by show tv.length ≤ _; omega⟩, h3.1, h4.1⟩, h3, h4, fun z => by cases z⟩
 ·unfold entF tstF
  rw [if_neg (show ¬ ((2 : Int) = 1) by decide), if_pos rfl, checkS_eq h3 h4, if_neg (by simpa using checkR_fine.2 B), alikeS_same, if_neg (by decide)]
  exact hT
 ·unfold truE tstTr
  rw [if_neg (show ¬ ((2 : Int) = 1) by decide)]
  dsimp only
  rcases hR with ⟨s1, s2, s3⟩ | ⟨s1, s2⟩
  ·rw [if_neg (by omega), decide_eq_false s3]
   rfl
  ·rw [if_pos s2, decide_eq_true hfit, s1]
   rfl

theorem agrL_all {k K O N : Int} {nx ou : List Int} : ∀ (l : List Ent) (i : Nat), (∀ x ∈ l, truE k K O N nx ou x = true) -> agrL k K O N nx ou l i = (((i + l.length : Nat) : Int), true)
 |[], i, h => rfl
 |x :: l, i, h => by
  unfold agrL
  rw [if_pos (h x (by simp)), agrL_all l (i + 1) fun y hy => h y (by simp [hy])]
  simp only [List.length_cons]
  congr 2
  omega

theorem agrL_at {k K O N : Int} {nx ou : List Int} : ∀ (l : List Ent) (i n : Nat) (hn : n < l.length), (∀ j, (h : j < n) -> truE k K O N nx ou (l[j]'(by omega)) = true) -> truE k K O N nx ou l[n] = false -> agrL k K O N nx ou l i = (((i + n : Nat) : Int), false)
 |[], i, n, hn, h, hf => by simp at hn
 |x :: l, i, 0, hn, h, hf => by
  unfold agrL
  rw [if_neg (by rw [show truE k K O N nx ou x = false from hf]; decide)]
  rfl
 |x :: l, i, n + 1, hn, h, hf => by
  unfold agrL
  rw [if_pos (show truE k K O N nx ou x = true from h 0 (by omega)), agrL_at l (i + 1) n (by simpa using hn) (fun j hj => h (j + 1) (by omega)) hf]
  congr 2
  omega

theorem agr_told {k K O N : Int} {nx ou : List Int} (F : Fine k K O N nx ou) {l : List Ent} (hl : l.length ≤ 65536) (h : ∀ x ∈ l, told k K O N nx ou x) : agrS k K O l k K O N nx ou = ((l.length : Int), true, 0) := by
 have hc : lcheckS k K O l = ((l.length : Int), 0) := by
  unfold lcheckS
  rw [if_neg (by simpa using fine_head F hl), chkF_ok l 0 fun x hx => (h x hx).1]
  simp
 unfold agrS
 rw [hc, if_neg (by simp), if_neg (by simpa using checkR_fine.2 F), alikeS_same, if_neg (by simp), agrL_all l 0 fun x hx => (h x hx).2.1]
 simp

def turnE (O : Int) (x : Ent) : Ent := (x.1, (x.2.1, (x.2.2.1.set 0 ((x.2.2.1.getD 0 0 + 1).tmod O), x.2.2.2)))

theorem agr_turn {k K O N : Int} {nx ou : List Int} (F : Fine k K O N nx ou) (hO : 2 ≤ O) {l : List Ent} (hl : l.length ≤ 65536) (h : ∀ x ∈ l, told k K O N nx ou x) {n : Nat} (hn : n < l.length) (hk : l[n].1.1 = 1) (ho : 0 < l[n].2.2.1.length) :
  agrS k K O (l.set n (turnE O l[n])) k K O N nx ou = ((n : Int), false, 0) ∧ (∀ x ∈ l.set n (turnE O l[n]), okEnt x ∧ okL x.1.2.2.2.2.2.2.1 ∧ okL x.1.2.2.2.2.2.2.2) ∧ 0 ≤ l[n].2.2.1.getD 0 0 ∧ l[n].2.2.1.getD 0 0 < 64 := by
 have hF := F.fO
 obtain ⟨t1, t2, t3, t4, t5, t6⟩ := h _ (List.getElem_mem hn)
 obtain ⟨t7, t8⟩ := t6 hk
 -- what was said is right
 have hw : (wordS K l[n].1.2.1).2 = 0 ∧ teachC 1 l[n].1.2.1 k K O l[n].2.1 l[n].2.2.1 l[n].2.2.2 = 0 := by
  unfold entF at t1
  rw [if_pos hk] at t1
  unfold askF at t1
  by_cases d : (wordS K l[n].1.2.1).2 = 0
  ·rw [if_neg (by simpa using d)] at t1
   exact ⟨d, t1⟩
  ·rw [if_pos d] at t1
   exact absurd t1 d
 obtain ⟨a1, a2, a3⟩ := teach_ask hw.2
 have hall : allIn O l[n].2.2.1 := by
  rcases a3 with ⟨z1, z2, z3⟩ | ⟨z1, z2, z3⟩
  ·rw [F.fO2 z1]
   exact z3
  ·exact z3
 have hin := allIn_in hall
 have h0 : l[n].2.2.1.getD 0 0 = l[n].2.2.1[0] := getD_of 0 ho
 have h1 := hin _ (List.getElem_mem ho)
 have hnew : 0 ≤ (l[n].2.2.1.getD 0 0 + 1).tmod O ∧ (l[n].2.2.1.getD 0 0 + 1).tmod O < O ∧ (l[n].2.2.1.getD 0 0 + 1).tmod O ≠ l[n].2.2.1[0] := by
  rw [h0, Int.tmod_eq_emod_of_nonneg (by omega)]
  by_cases e : l[n].2.2.1[0] + 1 = O
  ·rw [e, Int.emod_self]
   omega
  ·rw [Int.emod_eq_of_lt (by omega) (by omega)]
   omega
 have hall' : allIn O (l[n].2.2.1.set 0 ((l[n].2.2.1.getD 0 0 + 1).tmod O)) := by
  refine findP_none.2 fun y hy => ?_
  have : 0 ≤ y ∧ y < O := by
   rcases List.mem_or_eq_of_mem_set hy with hy | hy
   ·exact hin y hy
   ·rw [hy]
    exact ⟨hnew.1, hnew.2.1⟩
  unfold outside
  rw [decide_eq_false (by omega), decide_eq_false (by omega)]
  rfl
 have ent : entF k K O (turnE O l[n]) = 0 := by
  unfold entF turnE
  rw [if_pos hk]
  unfold askF
  rw [if_neg (by simpa using hw.1)]
  unfold teachC
  rw [if_neg (by omega), if_neg (by omega), if_pos]
  refine ⟨a1, by rw [a2]; rfl, ?_⟩
  rcases a3 with ⟨z1, z2, z3⟩ | ⟨z1, z2, z3⟩
  ·refine .inl ⟨z1, by rw [List.length_set]; exact z2, ?_⟩
   rw [← F.fO2 z1]
   exact hall'
  ·exact .inr ⟨z1, by rw [List.length_set]; exact z2, hall'⟩
 have okT : okEnt (turnE O l[n]) ∧ okL (turnE O l[n]).1.2.2.2.2.2.2.1 ∧ okL (turnE O l[n]).1.2.2.2.2.2.2.2 := by
  refine ⟨⟨⟨?_, ?_⟩, t4.1, t5.1⟩, t4, t5⟩
  ·show (l[n].2.2.1.set 0 _).length ≤ _
   rw [List.length_set]
   omega
  ·show l[n].2.2.2.length ≤ _
   rw [t8]
   simp
 have hls : (l.set n (turnE O l[n])).length = l.length := List.length_set
 have hents : ∀ x ∈ l.set n (turnE O l[n]), entF k K O x = 0 := fun x hx => by
  rcases List.mem_or_eq_of_mem_set hx with hx | hx
  ·exact (h x hx).1
  ·rw [hx]; exact ent
 have hc : lcheckS k K O (l.set n (turnE O l[n])) = ((l.length : Int), 0) := by
  unfold lcheckS
  rw [hls, if_neg (by simpa using fine_head F hl), chkF_ok _ 0 hents, hls]
  simp
 have hfalse : truE k K O N nx ou (turnE O l[n]) = false := by
  unfold truE at t2
  rw [if_pos hk] at t2
  unfold askTr at t2
  have t2 := of_decide_eq_true t2
  unfold truE turnE
  rw [if_pos hk]
  unfold askTr
  dsimp only
  rw [t2, decide_eq_false]
  intro e
  have e0 : l[n].2.2.1.getD 0 0 = (l[n].2.2.1.set 0 ((l[n].2.2.1.getD 0 0 + 1).tmod O)).getD 0 0 := congrArg (fun z : List Int => z.getD 0 0) e
  rw [h0, List.getD_eq_getElem?_getD, List.getElem?_set_self ho] at e0
  rw [h0] at hnew
  exact hnew.2.2 e0.symm
 refine ⟨?_, ?_, by rw [h0]; omega, by rw [h0]; omega⟩
 ·unfold agrS
  rw [hc, if_neg (by simp), if_neg (by simpa using checkR_fine.2 F), alikeS_same, if_neg (by simp)]
  have := agrL_at (k := k) (K := K) (O := O) (N := N) (nx := nx) (ou := ou) (l.set n (turnE O l[n])) 0 n (by rw [hls]; exact hn) (fun j hj => by
   rw [List.getElem_set_ne (by omega)]
   exact (h _ (List.getElem_mem (by omega))).2.1) (by rw [List.getElem_set_self]; exact hfalse)
  rw [this]
  simp
 ·intro x hx
  rcases List.mem_or_eq_of_mem_set hx with hx | hx
  ·obtain ⟨_, _, q1, q2, q3, _⟩ := h x hx
   exact ⟨q1, q2, q3⟩
  ·rw [hx]; exact okT

end Go.Ev
