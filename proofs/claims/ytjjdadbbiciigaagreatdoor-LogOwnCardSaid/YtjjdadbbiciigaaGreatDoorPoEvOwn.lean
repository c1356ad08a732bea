/- Rows of a call's own, marked or not; appends to them, wherever they begin. -/
import Derived.Test.YtjjdadbbiciigaaGreatDoorPoEvData
import Derived.Maps.AppendAt
import Derived.Laws.MakeOwn
import Derived.Laws.OwnMore
import Derived.Lib.AppendStr
import Derived.Below
namespace Go.Ev
open Go.Lib
set_option linter.unusedVariables false
set_option linter.unusedSimpArgs false

variable {P : Program} {w w' : World}

def Blk (w : World) (g : Nat) (cur : Array Value) (e : TypeId) : Prop :=
 ∃ fz : Nat × Nat, w.heap[g]? = some (.cells cur e fz) ∧ (fz.1 = fz.2 ∨ cur.size ≤ fz.1)

theorem Blk.of {g : Nat} {cur : Array Value} {e : TypeId} (h : w.heap[g]? = some (.cells cur e (0, 0))) : Blk w g cur e := ⟨_, h, .inl rfl⟩
theorem Blk.lt {g : Nat} {cur : Array Value} {e : TypeId} (h : Blk w g cur e) : g < w.heap.size := by
 obtain ⟨fz, h, _⟩ := h
 exact (Array.getElem?_eq_some_iff.1 h).1
theorem Blk.move {g : Nat} {cur : Array Value} {e : TypeId} (h : Blk w g cur e) (hb : w'.heap[g]? = w.heap[g]?) : Blk w' g cur e := by
 obtain ⟨fz, h, r⟩ := h
 exact ⟨fz, hb.trans h, r⟩
theorem Blk.set {g : Nat} {cur cs : Array Value} {e : TypeId} (h : Blk w g cur e) (hs : cs.size = cur.size) : Blk (w.setRow g cs) g cs e := by
 obtain ⟨fz, h, r⟩ := h
 exact ⟨fz, setRow_heap w g cur _ e _ h, by rw [hs]; exact r⟩
theorem Blk.cell {g j : Nat} {cur : Array Value} {e : TypeId} (h : Blk w g cur e) : w.cell? ⟨g, j, none⟩ = cur[j]? := by
 obtain ⟨fz, h, _⟩ := h
 exact cell_of_row w g j cur e fz h

theorem Blk.mark {g : Nat} {cur : Array Value} {e : TypeId} (h : Blk w g cur e) : w.shape? g = some (e, cur.size) ∧ Blk (w.freeze ⟨g, cur.size, none⟩ 1) g cur e ∧ (∀ b, b ≠ g -> (w.freeze ⟨g, cur.size, none⟩ 1).heap[b]? = w.heap[b]?) ∧
  (w.freeze ⟨g, cur.size, none⟩ 1).heap.size = w.heap.size ∧ (w.freeze ⟨g, cur.size, none⟩ 1).os = w.os ∧ (w.freeze ⟨g, cur.size, none⟩ 1).tape = w.tape ∧ (w.freeze ⟨g, cur.size, none⟩ 1).output = w.output := by
 obtain ⟨fz, h, r⟩ := h
 have hlt : g < w.heap.size := (Array.getElem?_eq_some_iff.1 h).1
 have hv : w.heap[g] = .cells cur e fz := (Array.getElem?_eq_some_iff.1 h).2
 refine ⟨by unfold World.shape?; rw [h], ?_, fun b hb => ?_, ?_, ?_, ?_, ?_⟩
 ·refine ⟨if fz.1 == fz.2 then (cur.size, cur.size + 1) else (min fz.1 cur.size, max fz.2 (cur.size + 1)), ?_, ?_⟩
  ·unfold World.freeze
   rw [if_neg (by decide)]
   simp [Array.getElem?_modify, h]
  ·right
   split
   ·exact Nat.le_refl _
   ·rename_i hne
    have : fz.1 ≠ fz.2 := by simpa using hne
    simp only
    omega
 ·unfold World.freeze
  rw [if_neg (by decide)]
  simp [Array.getElem?_modify, Ne.symm hb]
 all_goals
  unfold World.freeze
  rw [if_neg (by decide)]
  try simp

theorem run_mark {t e : TypeId} {g : Nat} {cur : Array Value} {n c : Nat} (h : Blk w g cur e) (ht : P.underlying t = some (.slice e)) (he : P.underlying e = some (.int .u8)) :
  (convert t t (.slice (some ⟨g, 0, none⟩) n c)).run P w = .ok (.slice (some ⟨g, 0, none⟩) n c) (w.freeze ⟨g, cur.size, none⟩ 1) := by
 have hs := h.mark.1
 simp [convert, run_underlying ht, run_underlying he, markStringish, hs]

theorem add_lit (g o j : Nat) : (⟨g, o, none⟩ : Addr).add j = ⟨g, o + j, none⟩ := by unfold Addr.add; split <;> simp_all

theorem run_storeBlk (g o : Nat) (t : TypeId) : ∀ (vs : List Value) (i : Nat) (cur : Array Value) (w : World), Blk w g cur t -> o + i + vs.length ≤ cur.size -> (∀ v ∈ vs, v.oneCell' = true) →
  (storeCells ⟨g, o, none⟩ vs i).run P w = .ok () (w.setRow g (cur.toList.take (o + i) ++ vs ++ cur.toList.drop (o + i + vs.length)).toArray)
 |[], i, cur, w, hg, _, _ => by
  obtain ⟨fz, hg, _⟩ := hg
  simp only [storeCells, List.append_nil, List.length_nil, Nat.add_zero, List.take_append_drop, Array.toArray_toList]
  rw [setRow_self w g cur t fz hg]
  rfl
 |v :: rest, i, cur, w, hg, hl, h1 => by
  have hi : o + i < cur.size := by simp at hl; omega
  have hset := hg.set (cs := cur.setIfInBounds (o + i) v) (by simp)
  obtain ⟨fz, hg, hfz⟩ := hg
  have hadd : (⟨g, o, none⟩ : Addr).add i = ⟨g, o + i, none⟩ := add_lit g o i
  have hcell : w.cell? ⟨g, o + i, none⟩ = some cur[o + i] := by simp [World.cell?, hg, hi]
  have hfro : w.frozen? ⟨g, o + i, none⟩ = false := by
   obtain ⟨lo, hi'⟩ := fz
   simp only [World.frozen?, hg, Bool.and_eq_false_iff, decide_eq_false_iff_not]
   simp only at hfz
   omega
  have hst : (store ((⟨g, o, none⟩ : Addr).add i) v).run P w = .ok () (w.setRow g (cur.setIfInBounds (o + i) v)) := by
   rw [hadd, run_store P w _ v _ (h1 v (by simp)), hcell]
   simp [hfro, setCell_eq_setRow w g (o + i) cur t fz v hg]
  have ih := run_storeBlk g o t rest (i + 1) (cur.setIfInBounds (o + i) v) (w.setRow g (cur.setIfInBounds (o + i) v)) hset (by simp at hl ⊢; omega) (fun x hx => h1 x (by simp [hx]))
  simp only [storeCells, Sem.run_bind, hst, Result.andThen_ok, ih, setRow_setRow]
  congr 3
  have e := list_seg_step cur.toList (o + i) v rest (by simp at hl ⊢; omega)
  simpa [Array.toList_setIfInBounds, Nat.add_assoc] using e

structure Src (P : Program) (t : TypeId) (w : World) (size : Nat) (y : Value) (m : Nat) (new : List Value) : Prop where
 ty : (∃ e, P.underlying t = some (.slice e)) ∨ P.underlying t = some .string
 len : ∀ w, (Builtin.lenOf y).run P w = .ok m w
 cells : (Builtin.firstCells size m y).run P w = .ok new.toArray w
 cells' : (Builtin.firstCells size m y).run P w.drew = .ok new.toArray w.drew
 size : new.length = m * size
 one : ∀ u ∈ new, u.oneCell' = true

theorem Src.slice {t e : TypeId} {size m c : Nat} {A : Option Addr} {new : List Value} (ht : P.underlying t = some (.slice e)) (hA : A = none -> m = 0) (hl : new.length = m * size) (hc : ∀ a, A = some a -> ∀ (j : Nat) (u : Value), new[j]? = some u -> w.cell? (a.add j) = some u)
  (h1 : ∀ u ∈ new, u.oneCell' = true) : Src P t w size (.slice A m c) m new := by
 cases A with
 |none =>
  have hm := hA rfl
  subst hm
  have : new = [] := List.eq_nil_of_length_eq_zero (by simpa using hl)
  subst this
  exact ⟨.inl ⟨_, ht⟩, fun w => by simp [Builtin.lenOf], by simp [Builtin.firstCells], by simp [Builtin.firstCells], hl, h1⟩
 |some a => exact ⟨.inl ⟨_, ht⟩, fun w => by simp [Builtin.lenOf], run_firstCells_some (P := P) w size m a m c new hl (hc a rfl), run_firstCells_some (P := P) w.drew size m a m c new hl (by simpa using hc a rfl), hl, h1⟩

theorem Src.str {t : TypeId} (s : ByteArray) (ht : P.underlying t = some .string) : Src P t w 1 (.string s) s.size (strCells s) :=
 ⟨.inr ht, fun w => by simp [Builtin.lenOf], run_firstCells_string w 1 s, run_firstCells_string w.drew 1 s, by rw [strCells_length, Nat.mul_one], strCells_oneCell s⟩

theorem append_room {t t' ty e : TypeId} {i : TypeInfo} {y : Value} {m : Nat} {new : List Value} (ht : P.underlying t = some (.slice e)) (hi : P.info? e = some i) (hs : Src P t' w i.size y m new)
  {g off n cap : Nat} {cur : Array Value} (hg : Blk w g cur e) (hroom : n + m ≤ cap) (hfit : off + n * i.size + new.length ≤ cur.size) :
  (Builtin.append_ #[t, t'] ty #[.slice (some ⟨g, off, none⟩) n cap, y]).run P w =
   .ok (.slice (some ⟨g, off, none⟩) (n + m) cap) (w.setRow g (cur.toList.take (off + n * i.size) ++ new ++ cur.toList.drop (off + n * i.size + new.length)).toArray) := by
 have hst := run_storeBlk (P := P) g (off + n * i.size) e new 0 cur w hg (by simpa using hfit) hs.one
 simp only [Nat.add_zero] at hst
 have hl := hs.len
 have hc := hs.cells
 rcases hs.ty with ⟨e', hd⟩ | hd <;> simp [Builtin.append_, run_underlying ht, run_underlying hd, sizeOf, typeInfo, hi, hl, hroom, hc, add_lit, hst]

theorem append_grow {t t' ty e : TypeId} {i : TypeInfo} {z : Value} {y : Value} {m : Nat} {new : List Value} (ht : P.underlying t = some (.slice e)) (hi : P.info? e = some i) (hz : i.zero = some z) (hs : Src P t' w i.size y m new)
  {A : Option Addr} {n cap : Nat} (olds : List Value) (hlo : olds.length = n * i.size) (hA : A = none -> n = 0) (holds : ∀ b, A = some b -> ∀ (j : Nat) (v : Value), olds[j]? = some v -> w.cell? (b.add j) = some v)
  (hg : cap < n + m) (h63 : n + m ≤ 9223372036854775807) (hfit : Builtin.nextslicecap (n + m) cap * i.bytes ≤ 281474976710656) :
  (Builtin.append_ #[t, t'] ty #[.slice A n cap, y]).run P w =
   .ok (.slice (some ⟨w.heap.size, 0, none⟩) (n + m) (grownCap w (n + m) cap e))
    (w.drew.alloc (.cells (olds.toArray ++ new.toArray ++ Builtin.zeroCells z.cells (grownCap w (n + m) cap e - (n + m))) e)) := by
 have hn : ¬ (n + m ≤ cap) := by omega
 have h63' : ¬ (9223372036854775807 < ((n : Int) + (m : Int))) := by omega
 have h48' : ¬ (281474976710656 < Builtin.nextslicecap (n + m) cap * i.bytes) := by omega
 have hl := hs.len
 have hc := hs.cells'
 have hfo : (Builtin.firstCells i.size n (.slice A n cap)).run P w.drew = .ok olds.toArray w.drew := by
  cases A with
  |none =>
   have : olds = [] := List.eq_nil_of_length_eq_zero (by rw [hlo, hA rfl]; simp)
   subst this
   simp [Builtin.firstCells]
  |some b => exact run_firstCells_some (P := P) w.drew i.size n b n cap olds hlo (by simpa using holds b rfl)
 rcases hs.ty with ⟨e', hd⟩ | hd
 ·simp [Builtin.append_, run_underlying ht, run_underlying hd, sizeOf, typeInfo, zeroValue, hi, hz, hl, hn, h63', h48', Question.forced, hc, hfo, newRow, grownCap]
  congr 2
  apply Array.ext'
  simp [List.append_assoc]
 ·simp [Builtin.append_, run_underlying ht, run_underlying hd, sizeOf, typeInfo, zeroValue, hi, hz, hl, hn, h63', h48', Question.forced, hc, hfo, newRow, grownCap]
  congr 2
  apply Array.ext'
  simp [List.append_assoc]

theorem append_zero {t t' ty e : TypeId} {i : TypeInfo} {y : Value} (ht : P.underlying t = some (.slice e)) (hi : P.info? e = some i) (hs : Src P t' w i.size y 0 []) {n cap : Nat} (hn : n ≤ cap) :
  (Builtin.append_ #[t, t'] ty #[.slice none n cap, y]).run P w = .ok (.slice none n cap) w := by
 have hl := hs.len
 have hc := hs.cells
 rcases hs.ty with ⟨e', hd⟩ | hd <;> simp [Builtin.append_, run_underlying ht, run_underlying hd, sizeOf, typeInfo, hi, hl, hn, hc]

/-! ### Rows of one's own -/

def ownsM (w : World) (e : TypeId) (size : Nat) (v : Value) (n : Nat) (xs : List Value) : Prop :=
 xs.length = n * size ∧
 ((v = .slice none 0 0 ∧ n = 0) ∨
  ∃ g cap cur, v = .slice (some ⟨g, 0, none⟩) n cap ∧ 0 ≤ g ∧ Blk w g cur e ∧ n ≤ cap ∧ cap ≤ maxLen ∧ cur.size = cap * size ∧ cur.toList.take (n * size) = xs)

theorem ownsM_nil (w : World) (e : TypeId) (size : Nat) : ownsM w e size (.slice none 0 0) 0 [] := ⟨by simp, .inl ⟨rfl, rfl⟩⟩

theorem ownsM.cells {e : TypeId} {size n : Nat} {v : Value} {xs : List Value} (h : ownsM w e size v n xs) {g : Nat} (hg : v.ownBlock = some g) : ∀ (j : Nat) (u : Value), xs[j]? = some u -> w.cell? ((⟨g, 0, none⟩ : Addr).add j) = some u := by
 intro j u hu
 rcases h.2 with ⟨rfl, _⟩ | ⟨g', cap, cur, rfl, _, hgg, _, _, _, htake⟩
 ·simp [Value.ownBlock] at hg
 ·simp [Value.ownBlock] at hg
  subst hg
  rw [add_lit, Nat.zero_add, hgg.cell]
  rw [← htake, List.getElem?_take] at hu
  split at hu
  ·simpa using hu
  ·cases hu

theorem ownsM.shorter {e : TypeId} {size n m c : Nat} {A : Option Addr} {xs : List Value} (h : ownsM w e size (.slice A m c) m xs) (hn : n ≤ m) : ownsM w e size (.slice A n c) n (xs.take (n * size)) := by
 have hmul : n * size ≤ m * size := Nat.mul_le_mul_right _ hn
 refine ⟨by rw [List.length_take, h.1]; omega, ?_⟩
 rcases h.2 with ⟨he, h0⟩ | ⟨g, cap, cur, he, hg0, hg, hcap, hm, hcur, htake⟩
 ·obtain ⟨rfl, _, rfl⟩ := Value.slice.inj he
  left
  have : n = 0 := by omega
  subst this
  exact ⟨rfl, rfl⟩
 ·obtain ⟨rfl, _, rfl⟩ := Value.slice.inj he
  refine .inr ⟨g, c, cur, rfl, hg0, hg, by omega, hm, hcur, ?_⟩
  rw [← htake, List.take_take, Nat.min_eq_left hmul]

theorem ownsM.longer {e : TypeId} {size n m c : Nat} {A : Option Addr} {xs : List Value} (h : ownsM w e size (.slice A n c) n xs) (hn : n ≤ m) (hm : m ≤ c) : ∃ ys, ownsM w e size (.slice A m c) m ys ∧ xs = ys.take (n * size) := by
 have hmul : n * size ≤ m * size := Nat.mul_le_mul_right _ hn
 rcases h.2 with ⟨he, h0⟩ | ⟨g, cap, cur, he, hg0, hg, hcap, hm2, hcur, htake⟩
 ·obtain ⟨rfl, _, rfl⟩ := Value.slice.inj he
  have : m = 0 := by omega
  subst this
  have : xs = [] := List.eq_nil_of_length_eq_zero (by rw [h.1, h0]; simp)
  exact ⟨[], ownsM_nil _ _ _, by rw [this]; simp⟩
 ·obtain ⟨rfl, _, rfl⟩ := Value.slice.inj he
  have hmc : m * size ≤ c * size := Nat.mul_le_mul_right _ hm
  refine ⟨cur.toList.take (m * size), ⟨by rw [List.length_take, Array.length_toList, hcur]; omega, .inr ⟨g, c, cur, rfl, hg0, hg, hm, hm2, hcur, rfl⟩⟩, ?_⟩
  rw [← htake, List.take_take, Nat.min_eq_left hmul]

theorem run_append_M {t t' ty e : TypeId} {i : TypeInfo} {z : Value} {y : Value} {m : Nat} {new : List Value} (ht : P.underlying t = some (.slice e)) (hi : P.info? e = some i) (hz : i.zero = some z) (hzs : z.cells.size = i.size) (hsz : 0 < i.size)
  (hs : Src P t' w i.size y m new) {v : Value} {n : Nat} {xs : List Value} (hown : ownsM w e i.size v n xs) (h63 : n + m ≤ maxLen) (hbytes : (n + m) * i.bytes ≤ 140737488355328) :
  ∃ v' w', (Builtin.append_ #[t, t'] ty #[v, y]).run P w = .ok v' w' ∧ ownsM w' e i.size v' (n + m) (xs ++ new) ∧ w.grownBy w' v.ownBlock ∧ ((∃ A c, v = .slice A n c ∧ v' = .slice A (n + m) c ∧ n + m ≤ c) ∨ (v'.ownBlock = some w.heap.size ∧ w.grownBy w' none)) := by
 have hsmall : n + m ≤ 9223372036854775807 := by simp only [maxLen] at h63; omega
 have hlen : (xs ++ new).length = (n + m) * i.size := by rw [List.length_append, hown.1, hs.size, Nat.add_mul]
 have grown : ∀ (old : Nat), old < n + m -> ∀ (row : Option Nat),
   ownsM (w.drew.alloc (.cells (xs.toArray ++ new.toArray ++ Builtin.zeroCells z.cells (grownCap w (n + m) old e - (n + m))) e)) e i.size
    (.slice (some ⟨w.heap.size, 0, none⟩) (n + m) (grownCap w (n + m) old e)) (n + m) (xs ++ new) ∧
   w.grownBy (w.drew.alloc (.cells (xs.toArray ++ new.toArray ++ Builtin.zeroCells z.cells (grownCap w (n + m) old e - (n + m))) e)) row := by
  intro old ho row
  have hge := grownCap_ge w (n + m) old e
  have hcm : grownCap w (n + m) old e ≤ maxLen := grownCap_le_maxLen w (n + m) old e h63
  refine ⟨⟨hlen, .inr ⟨w.heap.size, _, _, rfl, Nat.zero_le _, .of (heap_alloc_new w.drew _), hge, hcm, ?_, ?_⟩⟩, ⟨rfl, rfl, rfl, by simp, fun k hk _ => heap_alloc_old w.drew _ hk⟩⟩
  ·simp only [Array.size_append, List.size_toArray, size_zeroCells, hzs, hown.1, hs.size, ← Nat.add_mul]
   congr 1
   omega
  ·simp only [Array.toList_append, List.append_assoc]
   rw [← List.append_assoc, ← hlen]
   exact List.take_left
 rcases hown.2 with ⟨rfl, rfl⟩ | ⟨g, cap, cur, rfl, hbg, hg, hnc, hcm, hcs, htake⟩
 ·have hx : xs = [] := List.eq_nil_of_length_eq_zero (by simpa using hown.1)
  subst hx
  by_cases hm : m = 0
  ·subst hm
   have hn : new = [] := List.eq_nil_of_length_eq_zero (by simpa using hs.size)
   subst hn
   exact ⟨.slice none 0 0, w, append_zero ht hi hs (Nat.le_refl _), ownsM_nil w e i.size, ⟨rfl, rfl, rfl, Nat.le_refl _, fun _ _ _ => rfl⟩, Or.inl ⟨none, 0, rfl, rfl, Nat.le_refl _⟩⟩
  ·have hr := append_grow (ty := ty) (A := none) (n := 0) (cap := 0) ht hi hz hs [] (by simp) (fun _ => rfl) (fun b hb => by cases hb) (by omega) (by omega) (growslice_fits (by omega) hbytes)
   have hgr := grown 0 (by omega) (Value.ownBlock (.slice none 0 0))
   have hgn := (grown 0 (by omega) none).2
   simp only [Nat.zero_add, List.nil_append, Array.empty_append] at hgr hr hgn ⊢
   exact ⟨_, _, hr, hgr.1, hgr.2, Or.inr ⟨rfl, hgn⟩⟩
 ·by_cases hroom : n + m ≤ cap
  ·have hfit : 0 + n * i.size + new.length ≤ cur.size := by rw [hs.size, hcs, Nat.zero_add, ← Nat.add_mul]; exact Nat.mul_le_mul_right _ hroom
   have hr := append_room (ty := ty) (off := 0) ht hi hs hg hroom hfit
   rw [Nat.zero_add] at hr hfit
   refine ⟨_, _, hr, ⟨hlen, .inr ⟨g, cap, _, rfl, hbg, hg.set ?_, hroom, hcm, ?_, ?_⟩⟩, ⟨rfl, rfl, rfl, by simp, fun k _ hk => setRow_other w g k _ (fun e => hk (by simp [Value.ownBlock, e]))⟩, Or.inl ⟨_, _, rfl, rfl, hroom⟩⟩
   ·simp only [List.size_toArray, List.length_append, List.length_take, List.length_drop, Array.length_toList]
    omega
   ·simp only [List.size_toArray, List.length_append, List.length_take, List.length_drop, Array.length_toList]
    omega
   ·rw [List.toList_toArray, htake, ← hlen]
    exact List.take_left
  ·have hholds : ∀ b, some (⟨g, 0, none⟩ : Addr) = some b -> ∀ (j : Nat) (u : Value), xs[j]? = some u -> w.cell? (b.add j) = some u := fun b hb => by
    obtain rfl := Option.some.inj hb
    exact hown.cells (g := g) rfl
   have hr := append_grow (ty := ty) (A := some ⟨g, 0, none⟩) (n := n) (cap := cap) ht hi hz hs xs hown.1 (fun h => by cases h) hholds (by omega) (by omega) (growslice_fits (by omega) hbytes)
   have hgr := grown cap (by omega) (Value.ownBlock (.slice (some ⟨g, 0, none⟩) n cap))
   exact ⟨_, _, hr, hgr.1, hgr.2, Or.inr ⟨rfl, (grown cap (by omega) none).2⟩⟩

def ownsOff (w : World) (e : TypeId) (v : Value) (xs : List Value) : Prop :=
 (v = .slice none 0 0 ∧ xs = []) ∨ ∃ (g off cap : Nat) (cur : Array Value), v = .slice (some ⟨g, off, none⟩) xs.length cap ∧ Blk w g cur e ∧ xs.length ≤ cap ∧ cap ≤ maxLen ∧ off + cap ≤ cur.size ∧
  ∀ (j : Nat) (u : Value), xs[j]? = some u -> cur[off + j]? = some u

theorem run_append_off {t ty e : TypeId} {i : TypeInfo} {z : Value} {y : Value} {new : List Value} (ht : P.underlying t = some (.slice e)) (hi : P.info? e = some i) (hz : i.zero = some z) (hzs : z.cells.size = 1) (h1 : i.size = 1)
  (hs : Src P t w i.size y new.length new) {v : Value} {xs : List Value} (hown : ownsOff w e v xs) (h63 : xs.length + new.length ≤ maxLen) (hbytes : (xs.length + new.length) * i.bytes ≤ 140737488355328) :
  ∃ v' w', (Builtin.append_ #[t, t] ty #[v, y]).run P w = .ok v' w' ∧ ownsOff w' e v' (xs ++ new) ∧ w.grownBy w' v.ownBlock ∧ (v'.ownBlock = v.ownBlock ∨ v'.ownBlock = some w.heap.size) := by
 have hsmall : xs.length + new.length ≤ 9223372036854775807 := by simp only [maxLen] at h63; omega
 have grown : ∀ (old : Nat), old < xs.length + new.length -> ∀ (row : Option Nat),
   ownsOff (w.drew.alloc (.cells (xs.toArray ++ new.toArray ++ Builtin.zeroCells z.cells (grownCap w (xs.length + new.length) old e - (xs.length + new.length))) e)) e
    (.slice (some ⟨w.heap.size, 0, none⟩) (xs.length + new.length) (grownCap w (xs.length + new.length) old e)) (xs ++ new) ∧
   w.grownBy (w.drew.alloc (.cells (xs.toArray ++ new.toArray ++ Builtin.zeroCells z.cells (grownCap w (xs.length + new.length) old e - (xs.length + new.length))) e)) row := by
  intro old ho row
  have hge := grownCap_ge w (xs.length + new.length) old e
  have hcm : grownCap w (xs.length + new.length) old e ≤ maxLen := grownCap_le_maxLen w (xs.length + new.length) old e h63
  refine ⟨.inr ⟨w.heap.size, 0, _, _, by rw [List.length_append], .of (heap_alloc_new w.drew _), by rw [List.length_append]; exact hge, hcm, ?_, fun j u hu => ?_⟩, ⟨rfl, rfl, rfl, by simp, fun k hk _ => heap_alloc_old w.drew _ hk⟩⟩
  ·simp only [Array.size_append, List.size_toArray, size_zeroCells, hzs]
   omega
  ·rw [Nat.zero_add, ← Array.getElem?_toList, Array.toList_append, Array.toList_append, List.toList_toArray, List.toList_toArray, List.getElem?_append_left]
   ·exact hu
   ·exact (List.getElem?_eq_some_iff.1 hu).1
 rcases hown with ⟨rfl, rfl⟩ | ⟨g, off, cap, cur, rfl, hg, hnc, hcm, hcs, hce⟩
 ·by_cases hm : new.length = 0
  ·have hn : new = [] := List.eq_nil_of_length_eq_zero hm
   subst hn
   exact ⟨.slice none 0 0, w, append_zero ht hi hs (Nat.le_refl _), .inl ⟨rfl, rfl⟩, ⟨rfl, rfl, rfl, Nat.le_refl _, fun _ _ _ => rfl⟩, Or.inl rfl⟩
  ·have hr := append_grow (ty := ty) (A := none) (n := 0) (cap := 0) ht hi hz hs [] (by simp) (fun _ => rfl) (fun b hb => by cases hb) (by omega) (by simpa using hsmall) (growslice_fits (by omega) (by simpa using hbytes))
   have hgr := grown 0 (by simp; omega) (Value.ownBlock (.slice none 0 0))
   simp only [List.length_nil] at hgr
   exact ⟨_, _, hr, hgr.1, hgr.2, Or.inr rfl⟩
 ·by_cases hroom : xs.length + new.length ≤ cap
  ·have hfit : off + xs.length * i.size + new.length ≤ cur.size := by rw [h1]; omega
   have hr := append_room (ty := ty) (off := off) ht hi hs hg hroom hfit
   rw [h1, Nat.mul_one] at hr hfit
   have hset := hg.set (cs := (cur.toList.take (off + xs.length) ++ new ++ cur.toList.drop (off + xs.length + new.length)).toArray) (by
    simp only [List.size_toArray, List.length_append, List.length_take, List.length_drop, Array.length_toList]
    omega)
   refine ⟨_, _, hr, .inr ⟨g, off, cap, _, by rw [List.length_append], hset, by rw [List.length_append]; exact hroom, hcm, ?_, fun j u hu => ?_⟩, ⟨rfl, rfl, rfl, by simp, fun k _ hk => setRow_other w g k _ (fun e => hk (by simp [Value.ownBlock, e]))⟩, Or.inl rfl⟩
   ·simp only [List.size_toArray, List.length_append, List.length_take, List.length_drop, Array.length_toList]
    omega
   ·have hcl : cur.toList.length = cur.size := Array.length_toList
    have hlt : (cur.toList.take (off + xs.length)).length = off + xs.length := by rw [List.length_take]; omega
    rw [← Array.getElem?_toList, List.toList_toArray, List.append_assoc, List.getElem?_append, hlt]
    rw [List.getElem?_append] at hu
    split at hu
    ·rename_i hj
     rw [if_pos (by omega), List.getElem?_take, if_pos (by omega)]
     simpa using hce j u hu
    ·rename_i hj
     rw [if_neg (by omega), List.getElem?_append_left]
     ·rw [← hu]
      congr 1
      omega
     ·have := (List.getElem?_eq_some_iff.1 hu).1
      omega
  ·have hholds : ∀ b, some (⟨g, off, none⟩ : Addr) = some b -> ∀ (j : Nat) (u : Value), xs[j]? = some u -> w.cell? (b.add j) = some u := fun b hb j u hu => by
    obtain rfl := Option.some.inj hb
    rw [add_lit, hg.cell]
    exact hce j u hu
   have hr := append_grow (ty := ty) (A := some ⟨g, off, none⟩) (n := xs.length) (cap := cap) ht hi hz hs xs (by rw [h1, Nat.mul_one]) (fun h => by cases h) hholds (by omega) (by omega) (growslice_fits (by omega) hbytes)
   have hgr := grown cap (by omega) (Value.ownBlock (.slice (some ⟨g, off, none⟩) xs.length cap))
   exact ⟨_, _, hr, hgr.1, hgr.2, Or.inr rfl⟩

end Go.Ev
