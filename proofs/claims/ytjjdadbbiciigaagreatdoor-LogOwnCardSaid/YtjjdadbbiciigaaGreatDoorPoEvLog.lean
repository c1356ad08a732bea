/- Logs: what a reader of a log goes through, in plain lists. -/
import Derived.Test.YtjjdadbbiciigaaGreatDoorPoEvThere
import Derived.Test.YtjjdadbbiciigaaGreatDoorPoEvBts
import Derived.Test.YtjjdadbbiciigaaGreatDoorPoEvSrch
namespace Go.Ev
open Go.Proofs
set_option linter.unusedVariables false
set_option linter.unusedSimpArgs false

/-! ### A reader: the place, or the fault and its place -/

def stA : Rd Nat -> Int
 |.inl f => f.2
 |.inr a => (a : Int)
def stE : Rd Nat -> Int
 |.inl f => f.1
 |.inr _ => 0
def okR (b : List Int) : Rd Nat -> Prop
 |.inl f => f.1 ≠ 0
 |.inr a => a ≤ b.length

theorem numS_place {b : List Int} {a : Nat} (ha : a ≤ b.length) : numS b (a : Int) = ((numL (b.drop a)).1, ((a + (numL (b.drop a)).2.1 : Nat) : Int), (numL (b.drop a)).2.2) := by
 unfold numS
 rw [if_neg (by omega), Int.toNat_natCast]
 simp

theorem wantS_st {b : List Int} : ∀ (s : List Int) (a : Nat), a ≤ b.length -> okR b (wantS s b a)
 |[], a, ha => ha
 |c :: s, a, ha => by
  unfold wantS
  split
  ·rename_i h
   have := (List.getElem?_eq_some_iff.1 h).1
   exact wantS_st s (a + 1) (by omega)
  ·exact (by decide : (6 : Int) ≠ 0)

theorem bind_ok {b : List Int} {r : Rd Nat} {f : Nat -> Rd Nat} (h : okR b r) (hf : ∀ a, a ≤ b.length -> okR b (f a)) : okR b (bindR r f) := by
 cases r with
 |inl e => exact h
 |inr a => exact hf a h

def nuV : Rd (Int × Nat) -> Int
 |.inl _ => 0
 |.inr q => q.1
def nuR : Rd (Int × Nat) -> Rd Nat
 |.inl f => .inl f
 |.inr q => .inr q.2

theorem nu_ok {lo hi kd : Int} {b : List Int} (hk : kd ≠ 0) {a : Nat} (ha : a ≤ b.length) : okR b (nuR (numbS lo hi kd b a)) := by
 have h2 := numL_le (b.drop a)
 rw [List.length_drop] at h2
 unfold numbS
 by_cases h1 : (numL (b.drop a)).2.2 ≠ 0
 ·rw [if_pos h1]
  exact h1
 ·rw [if_neg h1]
  split
  ·exact hk
  ·show a + (numL (b.drop a)).2.1 ≤ b.length
   omega

def isS (s : List Int) (b : List Int) : Rd Nat -> Bool
 |.inl _ => false
 |.inr a => decide ((b.drop a).take s.length = s)
def isR (s : List Int) (b : List Int) : Rd Nat -> Rd Nat
 |.inl f => .inl f
 |.inr a => if (b.drop a).take s.length = s then .inr (a + s.length) else .inr a

theorem is_ok {s b : List Int} {r : Rd Nat} (h : okR b r) : okR b (isR s b r) := by
 cases r with
 |inl f => exact h
 |inr a =>
  show okR b (if (b.drop a).take s.length = s then .inr (a + s.length) else .inr a)
  split
  ·rename_i hc
   have h : a ≤ b.length := h
   have := congrArg List.length hc
   rw [List.length_take, List.length_drop] at this
   show a + s.length ≤ b.length
   omega
  ·exact h

def lrow (all : Bool) (b : List Int) : Nat -> Nat -> List Int -> Rd (Nat × List Int)
 |0, a, acc => .inr (a, acc)
 |n + 1, a, acc =>
  if b[a]? = some 32 ∧ ¬ (all = false ∧ b[a + 1]? = some 61) then
   if (numL (b.drop (a + 1))).2.2 ≠ 0 then .inl ((numL (b.drop (a + 1))).2.2, ((a + 1 + (numL (b.drop (a + 1))).2.1 : Nat) : Int))
   else lrow all b n (a + 1 + (numL (b.drop (a + 1))).2.1) (acc ++ [(numL (b.drop (a + 1))).1])
  else .inr (a, acc)
def roV : Rd (Nat × List Int) -> List Int
 |.inl _ => []
 |.inr q => q.2
def roR : Rd (Nat × List Int) -> Rd Nat
 |.inl f => .inl f
 |.inr q => .inr q.1
def rowR (all : Bool) (b : List Int) (r : Rd Nat) : Rd (Nat × List Int) := bindR r fun a => lrow all b (b.length + 1 - a) a []

theorem lrow_ok {all : Bool} {b : List Int} : ∀ (n a : Nat) (acc : List Int), a ≤ b.length -> okR b (roR (lrow all b n a acc))
 |0, a, acc, ha => ha
 |n + 1, a, acc, ha => by
  unfold lrow
  split
  ·rename_i h
   have h1 := (List.getElem?_eq_some_iff.1 h.1).1
   split
   ·rename_i h2
    exact h2
   ·have h2 := numL_le (b.drop (a + 1))
    rw [List.length_drop] at h2
    exact lrow_ok n _ _ (by omega)
  ·exact ha

theorem row_ok {all : Bool} {b : List Int} {r : Rd Nat} (h : okR b r) : okR b (roR (rowR all b r)) := by
 cases r with
 |inl f => exact h
 |inr a => exact lrow_ok _ _ _ h

/-! ### A log's entries -/

abbrev Ent := (Int × (List Int × (Int × (Int × (Int × (Int × (List Int × List Int))))))) × (Int × (List Int × List Int))

abbrev eat (l : List Ent) (i : Int) : Ent := l.getD i.toNat ((0, ([], (0, (0, (0, (0, ([], []))))))), (0, ([], [])))

def wnt (s : List Int) (b : List Int) (r : Rd Nat) : Rd Nat := bindR r (wantS s b)
theorem wnt_ok {s b : List Int} {r : Rd Nat} (h : okR b r) : okR b (wnt s b r) := bind_ok h fun a ha => wantS_st s a ha
def nmb (hi kd : Int) (b : List Int) (r : Rd Nat) : Rd (Int × Nat) := bindR r (numbS 1 hi kd b)
theorem nmb_ok {hi kd : Int} {b : List Int} (hk : kd ≠ 0) {r : Rd Nat} (h : okR b r) : okR b (nuR (nmb hi kd b r)) := by
 cases r with
 |inl f => exact h
 |inr a => exact nu_ok hk h

def firstL (b : List Int) (r : Rd Nat) : Int × Int × Int × Rd Nat :=
 if isS [109] b (wnt [108, 111, 103, 32] b r) = true then
  (2, nuV (nmb 64 1 b (wnt [101, 97, 108, 121, 32] b (isR [109] b (wnt [108, 111, 103, 32] b r)))),
   nuV (nmb 64 33 b (wnt [32] b (nuR (nmb 64 1 b (wnt [101, 97, 108, 121, 32] b (isR [109] b (wnt [108, 111, 103, 32] b r))))))),
   wnt [10] b (nuR (nmb 64 33 b (wnt [32] b (nuR (nmb 64 1 b (wnt [101, 97, 108, 121, 32] b (isR [109] b (wnt [108, 111, 103, 32] b r)))))))))
 else (1, nuV (nmb 64 1 b (wnt [100, 102, 97, 32] b (isR [109] b (wnt [108, 111, 103, 32] b r)))), 2,
   wnt [10] b (nuR (nmb 64 1 b (wnt [100, 102, 97, 32] b (isR [109] b (wnt [108, 111, 103, 32] b r))))))

def memW (b : List Int) (r : Rd Nat) : Rd (Nat × List Int) := rowR false b r
def memO (b : List Int) (r : Rd Nat) : Rd (Nat × List Int) := rowR true b (wnt [32, 61] b (roR (memW b r)))
def memE (b : List Int) (r : Rd Nat) : Rd Nat := wnt [10] b (roR (memO b r))

theorem memE_ok {b : List Int} {r : Rd Nat} (h : okR b r) : okR b (memE b r) := wnt_ok (row_ok (wnt_ok (row_ok h)))

def alikeS (k K O k' K' O' : Int) : Int := if k' ≠ k then 30 else if K' ≠ K then 1 else if O' ≠ O then 33 else 0

/-! ### An answer to a hypothesis -/

def hypEnd (b : List Int) (a : Nat) : Int := Lib.index (Lib.bytesOf (b.drop (a - 1))) (Lib.bytesOf [10, 61])
def hypImp (b : List Int) (a : Nat) : Imp := impS ((b.drop a).take (hypEnd b a).toNat)

def hypM (b : List Int) (a : Nat) : Rd Nat :=
 if hypEnd b a < 0 then .inl (6, (b.length : Int)) else if (hypImp b a).e ≠ 0 then .inl ((hypImp b a).e, IntKind.i64.wrap ((a : Int) + (hypImp b a).p)) else .inr (a + (hypImp b a).p.toNat)

theorem bytesOf_len (l : List Int) : (Lib.bytesOf l).length = l.length := by
 unfold Lib.bytesOf
 rw [List.length_map]

theorem hypEnd_room {b : List Int} {a : Nat} (ha : 1 ≤ a ∧ a ≤ b.length) (h : ¬ hypEnd b a < 0) : 0 ≤ hypEnd b a ∧ hypEnd b a + (a : Int) + 1 ≤ (b.length : Int) := by
 have := Lib.index_room (Lib.bytesOf (b.drop (a - 1))) (Lib.bytesOf [10, 61]) (by unfold hypEnd at h; omega)
 rw [bytesOf_len, bytesOf_len, List.length_drop] at this
 unfold hypEnd at h ⊢
 simp only [List.length_cons, List.length_nil] at this
 omega

theorem impS_place (b : List Int) (h : (impS b).e = 0) : (impS b).p = (b.length : Int) := by
 unfold impS at h ⊢
 split at h
 ·exact absurd h (by decide)
 ·rename_i hl
  rw [if_neg hl]
  cases hr : readS b with
  |inl e =>
   rw [hr] at h
   exact absurd h (flt_read b e hr).1
  |inr m => rfl

theorem impS_pl (b : List Int) : 0 ≤ (impS b).p ∧ (impS b).p ≤ (b.length : Int) := by
 unfold impS
 split
 ·exact ⟨Int.le_refl _, Int.natCast_nonneg _⟩
 ·cases hr : readS b with
  |inl e => exact (flt_read b e hr).2
  |inr m => exact ⟨Int.natCast_nonneg _, Int.le_refl _⟩

theorem hypM_ok {b : List Int} {a : Nat} (ha : 1 ≤ a ∧ a ≤ b.length) : okR b (hypM b a) := by
 unfold hypM
 by_cases h : hypEnd b a < 0
 ·rw [if_pos h]
  exact (by decide : (6 : Int) ≠ 0)
 ·rw [if_neg h]
  have hr := hypEnd_room ha h
  by_cases h2 : (hypImp b a).e ≠ 0
  ·rw [if_pos h2]
   exact h2
  ·rw [if_neg h2]
   have hp := impS_pl ((b.drop a).take (hypEnd b a).toNat)
   rw [List.length_take, List.length_drop] at hp
   have hp2 : (hypImp b a).p = (impS ((b.drop a).take (hypEnd b a).toNat)).p := rfl
   show a + (hypImp b a).p.toNat ≤ b.length
   omega

def hypY (b : List Int) (a : Nat) : Bool := isS [121] b (wnt [61, 32] b (hypM b a))
def hypN (b : List Int) (a : Nat) : Rd (Nat × List Int) := rowR true b (wnt [110] b (isR [121] b (wnt [61, 32] b (hypM b a))))
def hypZ (b : List Int) (a : Nat) : Rd Nat := if hypY b a = true then wnt [10] b (isR [121] b (wnt [61, 32] b (hypM b a))) else wnt [10] b (roR (hypN b a))

theorem lrow_len {all : Bool} {b : List Int} : ∀ (n a : Nat) (acc : List Int), a ≤ b.length -> (roV (lrow all b n a acc)).length ≤ acc.length + (b.length - a)
 |0, a, acc, ha => by
  show acc.length ≤ _
  omega
 |n + 1, a, acc, ha => by
  unfold lrow
  split
  ·rename_i h
   have h1 := (List.getElem?_eq_some_iff.1 h.1).1
   split
   ·show ([] : List Int).length ≤ _
    rw [List.length_nil]
    omega
   ·have h2 := numL_le (b.drop (a + 1))
    rw [List.length_drop] at h2
    have := lrow_len (all := all) (b := b) n (a + 1 + (numL (b.drop (a + 1))).2.1) (acc ++ [(numL (b.drop (a + 1))).1]) (by omega)
    rw [List.length_append, List.length_singleton] at this
    omega
  ·show acc.length ≤ _
   omega

theorem row_len {all : Bool} {b : List Int} {r : Rd Nat} (h : okR b r) : (roV (rowR all b r)).length ≤ b.length := by
 cases r with
 |inl f =>
  show ([] : List Int).length ≤ _
  simp
 |inr a =>
  have := lrow_len (all := all) (b := b) (b.length + 1 - a) a [] h
  rw [List.length_nil] at this
  show (roV (lrow all b (b.length + 1 - a) a [])).length ≤ _
  omega

theorem hypImp_short (b : List Int) (a : Nat) : short (hypImp b a).nx ∧ short (hypImp b a).ou := by
 have e : short ([] : List Int) := by
  unfold short
  simp
 unfold hypImp impS
 split
 ·exact ⟨e, e⟩
 ·cases hr : readS ((b.drop a).take (hypEnd b a).toNat) with
  |inl f => exact ⟨e, e⟩
  |inr m =>
   have F := (read_there hr).1
   have h1 := F.fN
   have h2 := F.fK
   have h3 := F.fnx
   have h4 := mulK ⟨h1, h2⟩
   refine ⟨by show m.2.2.2.2.1.length < _; omega, ?_⟩
   show m.2.2.2.2.2.length < _
   rcases F.fk with hk | hk
   ·have := F.fou1 hk
    omega
   ·have := F.fou2 hk
    omega

theorem lrow_ge {all : Bool} {b : List Int} : ∀ (n a : Nat) (acc : List Int) (q : Nat × List Int), lrow all b n a acc = .inr q -> a ≤ q.1
 |0, a, acc, q, h => by
  obtain rfl : (a, acc) = q := Sum.inr.inj h
  exact Nat.le_refl _
 |n + 1, a, acc, q, h => by
  unfold lrow at h
  split at h
  ·split at h
   ·cases h
   ·have := lrow_ge n _ _ q h
    omega
  ·obtain rfl : (a, acc) = q := Sum.inr.inj h
   exact Nat.le_refl _

theorem wnt_gt {s b : List Int} {r : Rd Nat} {c : Nat} (h : wnt s b r = .inr c) : ∃ a, r = .inr a ∧ c = a + s.length := by
 cases r with
 |inl f => cases h
 |inr a =>
  have h : wantS s b a = .inr c := h
  exact ⟨a, rfl, (wantS_ok h).1⟩

theorem row_gt {all : Bool} {b : List Int} {r : Rd Nat} {c : Nat} (h : roR (rowR all b r) = .inr c) : ∃ a, r = .inr a ∧ a ≤ c := by
 cases r with
 |inl f => cases h
 |inr a =>
  have h : roR (lrow all b (b.length + 1 - a) a []) = .inr c := h
  cases hq : lrow all b (b.length + 1 - a) a [] with
  |inl f => rw [hq] at h; cases h
  |inr q =>
   rw [hq] at h
   obtain rfl : q.1 = c := Sum.inr.inj h
   exact ⟨a, rfl, lrow_ge _ _ _ _ hq⟩

theorem memE_gt {b : List Int} {r : Rd Nat} {c : Nat} (h : memE b r = .inr c) : ∃ a, r = .inr a ∧ a + 3 ≤ c := by
 obtain ⟨c1, h1, e1⟩ := wnt_gt h
 obtain ⟨c2, h2, e2⟩ := row_gt h1
 obtain ⟨c3, h3, e3⟩ := wnt_gt h2
 obtain ⟨c4, h4, e4⟩ := row_gt h3
 simp only [List.length_cons, List.length_nil] at e1 e3
 exact ⟨c4, h4, by omega⟩

theorem isR_no {s b : List Int} {r : Rd Nat} (h : ¬ isS s b r = true) : isR s b r = r := by
 cases r with
 |inl f => rfl
 |inr a =>
  have h : ¬ (b.drop a).take s.length = s := by simpa [isS] using h
  show (if (b.drop a).take s.length = s then (.inr (a + s.length) : Rd Nat) else .inr a) = _
  rw [if_neg h]
theorem isR_gt {s b : List Int} {r : Rd Nat} {c : Nat} (h : isR s b r = .inr c) : ∃ a, r = .inr a ∧ a ≤ c := by
 cases r with
 |inl f => cases h
 |inr a =>
  have h : (if (b.drop a).take s.length = s then (.inr (a + s.length) : Rd Nat) else .inr a) = .inr c := h
  refine ⟨a, rfl, ?_⟩
  split at h
  ·have := Sum.inr.inj h
   omega
  ·have := Sum.inr.inj h
   omega

theorem hypZ_ok {b : List Int} {a : Nat} (ha : 1 ≤ a ∧ a ≤ b.length) : okR b (hypZ b a) := by
 have k1 : okR b (isR [121] b (wnt [61, 32] b (hypM b a))) := is_ok (wnt_ok (hypM_ok ha))
 unfold hypZ
 split
 ·exact wnt_ok k1
 ·exact wnt_ok (row_ok (wnt_ok k1))

theorem hypM_bad {b : List Int} {a : Nat} (h : hypEnd b a < 0 ∨ (hypImp b a).e ≠ 0) : stE (hypM b a) ≠ 0 := by
 unfold hypM
 by_cases h1 : hypEnd b a < 0
 ·rw [if_pos h1]
  exact (by decide : (6 : Int) ≠ 0)
 ·rw [if_neg h1]
  have h2 : (hypImp b a).e ≠ 0 := h.elim (fun q => absurd q h1) id
  rw [if_pos h2]
  exact h2

theorem hypM_ge {b : List Int} {a c : Nat} (h : hypM b a = .inr c) : a ≤ c := by
 unfold hypM at h
 split at h
 ·cases h
 ·split at h
  ·cases h
  ·have := Sum.inr.inj h
   omega

theorem hypZ_gt {b : List Int} {a c : Nat} (h : hypZ b a = .inr c) : a < c := by
 unfold hypZ at h
 split at h
 ·obtain ⟨c1, h1, e1⟩ := wnt_gt h
  obtain ⟨c2, h2, e2⟩ := isR_gt h1
  obtain ⟨c3, h3, e3⟩ := wnt_gt h2
  have := hypM_ge h3
  simp only [List.length_cons, List.length_nil] at e1 e3
  omega
 ·obtain ⟨c1, h1, e1⟩ := wnt_gt h
  obtain ⟨c2, h2, e2⟩ := row_gt h1
  obtain ⟨c3, h3, e3⟩ := wnt_gt h2
  obtain ⟨c4, h4, e4⟩ := isR_gt h3
  obtain ⟨c5, h5, e5⟩ := wnt_gt h4
  have := hypM_ge h5
  simp only [List.length_cons, List.length_nil] at e1 e3 e5
  omega

def lnumS (l : List Int) : List Int := (l.map fun n => 32 :: itoaI n).flatten

theorem lnumS_cons (x : Int) (l : List Int) : lnumS (x :: l) = 32 :: itoaI x ++ lnumS l := rfl

def askT (w o : List Int) : List Int := [63] ++ lnumS w ++ [32, 61] ++ lnumS o ++ [10]

def tstT (ex : List Int) (a : Int) (v : List Int) : List Int := if a = 2 then ([33, 10] ++ ex ++ [61, 32]) ++ [121, 10] else (([33, 10] ++ ex ++ [61, 32]) ++ [110]) ++ lnumS v ++ [10]

def askF (k K O : Int) (w : List Int) (a : Int) (o v : List Int) : Int := if (wordS K w).2 ≠ 0 then (wordS K w).2 else teachC 1 w k K O a o v

def tstF (k K O k' K' O' N' : Int) (nx ou : List Int) (a : Int) (o v : List Int) : Int :=
 if (checkS k' K' O' N' nx ou).2 ≠ 0 then (checkS k' K' O' N' nx ou).2 else if alikeS k K O k' K' O' ≠ 0 then alikeS k K O k' K' O' else teachC 2 [] k' K' O' a o v

def lheadS (k K O : Int) (n : Nat) : Int :=
 if k ≠ 1 ∧ k ≠ 2 then 30 else if K < 1 ∨ K > 64 then 1 else if (k = 1 ∧ O ≠ 2) ∨ O < 1 ∨ O > 64 then 33 else if (n : Int) > 65536 then 3 else 0

def entF (k K O : Int) (x : Ent) : Int :=
 if x.1.1 = 1 then askF k K O x.1.2.1 x.2.1 x.2.2.1 x.2.2.2
 else if x.1.1 = 2 then tstF k K O x.1.2.2.1 x.1.2.2.2.1 x.1.2.2.2.2.1 x.1.2.2.2.2.2.1 x.1.2.2.2.2.2.2.1 x.1.2.2.2.2.2.2.2 x.2.1 x.2.2.1 x.2.2.2 else 30

def okEnt (x : Ent) : Prop := (x.2.2.1.length ≤ 17592186044000 ∧ x.2.2.2.length ≤ 17592186044000) ∧ short x.1.2.2.2.2.2.2.1 ∧ short x.1.2.2.2.2.2.2.2

def chkF (k K O : Int) : List Ent -> Nat -> Int × Int
 |[], i => ((i : Int), 0)
 |x :: xs, i => if entF k K O x ≠ 0 then ((i : Int), entF k K O x) else chkF k K O xs (i + 1)

def lcheckS (k K O : Int) (l : List Ent) : Int × Int := if lheadS k K O l.length ≠ 0 then (0, lheadS k K O l.length) else chkF k K O l 0

def parsS (k K O : Int) (b : List Int) : Nat -> Nat -> List Ent -> Rd (List Ent)
 |0, _, acc => .inr acc
 |n + 1, a, acc =>
  if a < b.length then
   if isS [63] b (.inr a) = true then
    match memE b (isR [63] b (.inr a)) with
    |.inl f => .inl f
    |.inr c =>
     if askF k K O (roV (memW b (isR [63] b (.inr a)))) 1 (roV (memO b (isR [63] b (.inr a)))) [] ≠ 0 then .inl (askF k K O (roV (memW b (isR [63] b (.inr a)))) 1 (roV (memO b (isR [63] b (.inr a)))) [], (a : Int))
     else parsS k K O b n c (acc ++ [((1, (roV (memW b (isR [63] b (.inr a))), (k, (K, (O, (0, ([], []))))))), (1, (roV (memO b (isR [63] b (.inr a))), [])))])
   else if isS [33] b (isR [63] b (.inr a)) = true then
    match wnt [10] b (isR [33] b (isR [63] b (.inr a))) with
    |.inl f => .inl f
    |.inr d =>
     if hypEnd b d < 0 ∨ (hypImp b d).e ≠ 0 then .inl (stE (hypM b d), stA (hypM b d))
     else match hypZ b d with
      |.inl f => .inl f
      |.inr c =>
       if tstF k K O (hypImp b d).k (hypImp b d).K (hypImp b d).O (hypImp b d).N (hypImp b d).nx (hypImp b d).ou (if hypY b d = true then 2 else 3) [] (if hypY b d = true then [] else roV (hypN b d)) ≠ 0 then
        .inl (tstF k K O (hypImp b d).k (hypImp b d).K (hypImp b d).O (hypImp b d).N (hypImp b d).nx (hypImp b d).ou (if hypY b d = true then 2 else 3) [] (if hypY b d = true then [] else roV (hypN b d)), (a : Int))
       else parsS k K O b n c (acc ++ [((2, ([], ((hypImp b d).k, ((hypImp b d).K, ((hypImp b d).O, ((hypImp b d).N, ((hypImp b d).nx, (hypImp b d).ou))))))), ((if hypY b d = true then 2 else 3), ([], (if hypY b d = true then [] else roV (hypN b d)))))])
   else .inl (6, (a : Int))
  else .inr acc

def outP {R : Type} (k K O : Int) (b : List Int) (K0 : Int -> Int -> Int -> Int -> Int -> List Ent -> Option R) : Rd (List Ent) -> Option R
 |.inl f => K0 0 0 0 f.1 f.2 []
 |.inr l => K0 k K O 0 (b.length : Int) l

def nentS (b : List Int) : Int :=
 if (b.length : Int) > 0 ∧ (b.getD 0 0 = 63 ∨ b.getD 0 0 = 33) then
  IntKind.i64.wrap (IntKind.i64.wrap (((Lib.count (Lib.bytesOf b) (Lib.bytesOf [10, 63]) : Nat) : Int) + ((Lib.count (Lib.bytesOf b) (Lib.bytesOf [10, 33]) : Nat) : Int)) + 1)
 else IntKind.i64.wrap (((Lib.count (Lib.bytesOf b) (Lib.bytesOf [10, 63]) : Nat) : Int) + ((Lib.count (Lib.bytesOf b) (Lib.bytesOf [10, 33]) : Nat) : Int))

def parseP {R : Type} (b : List Int) (K0 : Int -> Int -> Int -> Int -> Int -> List Ent -> Option R) : Option R :=
 if (b.length : Int) > 16777216 then K0 0 0 0 2 0 []
 else if nentS b > 65536 then K0 0 0 0 3 0 []
 else match (firstL b (.inr 0)).2.2.2 with
  |.inl f => K0 0 0 0 f.1 f.2 []
  |.inr a => outP (firstL b (.inr 0)).1 (firstL b (.inr 0)).2.1 (firstL b (.inr 0)).2.2.1 b K0 (parsS (firstL b (.inr 0)).1 (firstL b (.inr 0)).2.1 (firstL b (.inr 0)).2.2.1 b (b.length + 1) a [])

theorem firstL_ok {b : List Int} {r : Rd Nat} (h : okR b r) : okR b (firstL b r).2.2.2 := by
 have k2 : okR b (isR [109] b (wnt [108, 111, 103, 32] b r)) := is_ok (wnt_ok h)
 unfold firstL
 split
 ·exact wnt_ok (nmb_ok (by decide) (wnt_ok (nmb_ok (by decide) (wnt_ok k2))))
 ·exact wnt_ok (nmb_ok (by decide) (wnt_ok k2))

end Go.Ev
