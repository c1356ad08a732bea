/- How what is told of a world moves on. -/
import Derived.Test.YtjjdadbbiciigaaGreatDoorPoEvRep
namespace Go.Ev
set_option linter.unusedVariables false
set_option linter.unusedSimpArgs false
set_option linter.unusedSectionVars false
variable [TabG]

variable {cx : Cx} {β β' : List Value} {ob ob' : List O} {w w' : World}

theorem blk_tuple {vs : List Value} {b : Nat} : blk (.tuple vs.toArray) b ↔ ∃ u ∈ vs, blk1 u = some b := by simp [blk]

theorem own_lt {e : TypeId} {sz n : Nat} {x : Value} {cells : List Value} (h : ownsM w e sz x n cells) {b : Nat} (hb : blk x b) : b < w.heap.size := by
 rcases h.2 with ⟨rfl, _⟩ | ⟨g, cap, cur, rfl, _, hg, _⟩
 ·simp [blk, blk1] at hb
 ·simp [blk, blk1] at hb
  subst hb
  exact hg.lt

theorem own_blk1 {e : TypeId} {sz n : Nat} {x : Value} {cells : List Value} (h : ownsM w e sz x n cells) (b : Nat) : blk x b ↔ blk1 x = some b := by
 rcases h.2 with ⟨rfl, _⟩ | ⟨g, cap, cur, rfl, _, hg, _⟩ <;> rfl

theorem off_lt {e : TypeId} {x : Value} {vs : List Value} (h : ownsOff w e x vs) {b : Nat} (hb : blk1 x = some b) : b < w.heap.size := by
 rcases h with ⟨rfl, _⟩ | ⟨g, off, cap, cur, rfl, hg, _⟩
 ·simp [blk1] at hb
 ·simp [blk1] at hb
  subst hb
  exact hg.lt

theorem RepO.lt {ok : Bool -> Nat -> Prop} {o : O} {x : Value} (h : RepO cx w ok β o x) (hl : o.live = true) {b : Nat} (hb : blk x b) : b < w.heap.size := by
 cases o with
 |box ty cs =>
  obtain ⟨g, vs, rfl, hg, _⟩ := h
  simp [blk, blk1] at hb
  subst hb
  exact (Array.getElem?_eq_some_iff.1 hg).1
 |row s =>
  obtain ⟨cells, ho, _⟩ := h
  exact own_lt ho hb
 |frz s => simp [O.live] at hl
 |gone => simp [O.live] at hl
 |frn s => simp [O.live] at hl
 |nst s =>
  obtain ⟨y, vs, rfl, hl, hz, ho, hin, hf, hd⟩ := h
  obtain ⟨u, hu, hb2⟩ := blk_tuple.1 hb
  rcases List.mem_cons.1 hu with rfl | hu
  ·exact off_lt ho hb2
  ·obtain ⟨j, hj⟩ := List.getElem?_of_mem hu
   obtain ⟨q, _, _, cells, hown, _⟩ := hin j u hj
   exact own_lt hown ((own_blk1 hown b).2 hb2)
 |fst s n =>
  obtain ⟨y, vs, cells, rfl, ho, _, hin, _⟩ := h
  obtain ⟨u, hu, hb2⟩ := blk_tuple.1 hb
  rcases List.mem_cons.1 hu with rfl | hu
  ·exact own_lt ho ((own_blk1 ho b).2 hb2)
  ·obtain ⟨q, _, cells, hown, _⟩ := hin u hu
   exact own_lt hown ((own_blk1 hown b).2 hb2)
 |grn i j e z m =>
  rcases h with ⟨cells, ho⟩ | ⟨A, c, n, y, vs, rfl, _⟩
  ·exact own_lt ho hb
  ·simp [blk, blk1] at hb

theorem ownsRow_move {e : TypeId} {sz n : Nat} {x : Value} {cells : List Value} (h : ownsM w e sz x n cells) (hb : ∀ b, blk x b -> w'.heap[b]? = w.heap[b]?) :
  ownsM w' e sz x n cells := by
 refine ⟨h.1, ?_⟩
 rcases h.2 with h2 | ⟨g, cap, cur, rfl, hg, hh, r⟩
 ·exact .inl h2
 ·exact .inr ⟨g, cap, cur, rfl, hg, hh.move (hb g rfl), r⟩

theorem OwnEl.move {s : Sq} {x : Value} (h : OwnEl w s x) (hf : s.t.flat = true) (hb : ∀ b, blk x b -> w'.heap[b]? = w.heap[b]?) : OwnEl w' s x := by
 obtain ⟨cells, ho, hc⟩ := h
 exact ⟨cells, ownsRow_move ho hb, fun j y hy => let ⟨cs, h1, h2⟩ := hc j y hy; ⟨cs, h1.of_flat hf, h2⟩⟩

theorem ownsOff.move {e : TypeId} {x : Value} {vs : List Value} (h : ownsOff w e x vs) (hb : ∀ b, blk1 x = some b -> w'.heap[b]? = w.heap[b]?) : ownsOff w' e x vs := by
 rcases h with h | ⟨g, off, cap, cur, rfl, hg, r⟩
 ·exact .inl h
 ·exact .inr ⟨g, off, cap, cur, rfl, hg.move (hb g rfl), r⟩

theorem Inner.move {s : Sq} {vs : List Value} (h : Inner w s vs) (hb : ∀ u ∈ vs, ∀ b, blk1 u = some b -> w'.heap[b]? = w.heap[b]?) : Inner w' s vs := by
 intro j u hj
 obtain ⟨q, h1, h2, h3⟩ := h j u hj
 refine ⟨q, h1, h2, h3.move h2 fun b hb1 => ?_⟩
 obtain ⟨cells, hown, _⟩ := h3
 exact hb u (List.mem_of_getElem? hj) b ((own_blk1 hown b).1 hb1)

theorem Owns.move {vs : List Value} (h : Owns w vs) (hb : ∀ u ∈ vs, ∀ b, blk1 u = some b -> w'.heap[b]? = w.heap[b]?) : Owns w' vs := fun u hu =>
 let ⟨q, h1, h2⟩ := h u hu
 ⟨q, h1, h2.move h1 fun b hb1 => by
  obtain ⟨cells, hown, _⟩ := h2
  exact hb u hu b ((own_blk1 hown b).1 hb1)⟩

theorem CelO.move : ∀ {t : Ty} {x : t.S} {cs us : List Value}, CelO w t x cs us -> (∀ u ∈ us, ∀ b, blk1 u = some b -> w'.heap[b]? = w.heap[b]?) -> CelO w' t x cs us
 |.int _, _, _, _, h, _ => h
 |.bool, _, _, _, h, _ => h
 |.str, _, _, _, h, _ => h
 |.sl _ _, _, _, _, ⟨hf, u, h1, h2, h3⟩, hb => ⟨hf, u, h1, h2, h3.move hf fun b hb1 => by
  obtain ⟨cells, hown, _⟩ := h3
  exact hb u (by rw [h2]; exact List.mem_singleton.2 rfl) b ((own_blk1 hown b).1 hb1)⟩
 |.pr _ _, _, _, _, ⟨c1, c2, u1, u2, h1, h2, h3, h4⟩, hb => ⟨c1, c2, u1, u2, h1, h2, h3.move fun u hu => hb u (by rw [h2]; exact List.mem_append_left _ hu), h4.move fun u hu => hb u (by rw [h2]; exact List.mem_append_right _ hu)⟩

theorem sub_mem {α : Type} {l : List α} {i n : Nat} {x : α} (h : x ∈ (l.drop i).take n) : x ∈ l := List.mem_of_mem_drop (List.mem_of_mem_take h)

theorem RepO.mono {ok ok' : Bool -> Nat -> Prop} (hm : ∀ fl b, ok fl b -> b < w.heap.size -> ok' fl b ∧ w'.heap[b]? = w.heap[b]?)
  (hβ : ∀ (i : Nat) (x : Value), β[i]? = some x -> β'[i]? = some x) {o : O} {x : Value} (hb : o.live = true -> ∀ b, blk x b -> w'.heap[b]? = w.heap[b]?)
  (h : RepO cx w ok β o x) : RepO cx w' ok' β' o x := by
 cases o with
 |box ty cs =>
  obtain ⟨g, vs, rfl, hg, hr⟩ := h
  exact ⟨g, vs, rfl, (hb rfl g rfl).trans hg, hr.mono hm hβ⟩
 |row s =>
  obtain ⟨cells, ho, hf, hc⟩ := h
  exact ⟨cells, ownsRow_move ho (hb rfl), hf, fun j y hy => let ⟨cs, h1, h2⟩ := hc j y hy; ⟨cs, h1.mono (hm s.fl), h2⟩⟩
 |frz s =>
  obtain ⟨A, c, rfl, hc, hr⟩ := h
  exact ⟨A, c, rfl, hc, hr.mono (hm s.fl)⟩
 |gone => trivial
 |frn s =>
  obtain ⟨y, vs, A, c, rfl, rfl, hc, hr⟩ := h
  exact ⟨_, vs, A, c, rfl, rfl, hc, hr.mono (hm s.fl)⟩
 |nst s =>
  obtain ⟨y, vs, rfl, hl, hz, ho, hin, hf, hd⟩ := h
  exact ⟨y, vs, rfl, hl, hz, ho.move fun b h1 => hb rfl b (blk_tuple.2 ⟨y, List.mem_cons_self, h1⟩), hin.move fun u hu b h1 => hb rfl b (blk_tuple.2 ⟨u, List.mem_cons_of_mem _ hu, h1⟩), hf, hd⟩
 |fst s n =>
  obtain ⟨y, vs, cells, rfl, ho, hl, hin, hc, hf, hd⟩ := h
  have hv : ∀ u ∈ vs, ∀ b, blk1 u = some b -> w'.heap[b]? = w.heap[b]? := fun u hu b h1 => hb rfl b (blk_tuple.2 ⟨u, List.mem_cons_of_mem _ hu, h1⟩)
  exact ⟨y, vs, cells, rfl, ownsRow_move ho fun b h1 => hb rfl b (blk_tuple.2 ⟨y, List.mem_cons_self, (own_blk1 ho b).1 h1⟩), hl, hin.move hv, fun j el h1 h2 => (hc j el h1 h2).move fun u hu => hv u (sub_mem hu), hf, hd⟩
 |grn i j e z m =>
  rcases h with ⟨cells, ho⟩ | ⟨A, c, n, y, vs, rfl, h1, h2⟩
  ·exact .inl ⟨cells, ownsRow_move ho (hb rfl)⟩
  ·exact .inr ⟨A, c, n, y, vs, rfl, hβ _ _ h1, h2⟩

structure Same (w w' : World) : Prop where
 os : w'.os = w.os
 tape : w'.tape = w.tape
 out : w'.output = w.output
 size : w.heap.size ≤ w'.heap.size
 blk : ∀ b, b < w.heap.size -> w'.heap[b]? = w.heap[b]?

theorem Same.refl (w : World) : Same w w := ⟨rfl, rfl, rfl, Nat.le_refl _, fun _ _ => rfl⟩
theorem Same.trans {a b c : World} (h : Same a b) (k : Same b c) : Same a c :=
 ⟨k.os.trans h.os, k.tape.trans h.tape, k.out.trans h.out, Nat.le_trans h.size k.size, fun i hi => (k.blk i (Nat.lt_of_lt_of_le hi h.size)).trans (h.blk i hi)⟩
theorem Same.alloc (w : World) (o : Obj) : Same w (w.alloc o) := ⟨rfl, rfl, rfl, by simp, fun _ hk => heap_alloc_old w o hk⟩
theorem Same.drew (w : World) : Same w w.drew := ⟨rfl, rfl, rfl, Nat.le_refl _, fun _ _ => rfl⟩

theorem okB_of {fl : Bool} {b : Nat} (h : okB cx β ob fl b) (hl : LiveB β' ob' b -> LiveB β ob b) : okB cx β' ob' fl b := ⟨fun k => h.1 (hl k), h.2⟩

theorem WRep.same (h : WRep cx β ob w) (hs : Same w w') : WRep cx β ob w' where
 hs := Nat.le_trans h.hs hs.size
 keep b hb hp := (hs.blk b (Nat.lt_of_lt_of_le hb h.hs)).trans (h.keep b hb hp)
 os := hs.os.trans h.os
 tape := hs.tape.trans h.tape
 out := hs.out.trans h.out
 len := h.len
 pre := h.pre
 obj i o x ho hx := (h.obj i o x ho hx).mono (fun fl b hok hb => ⟨hok, hs.blk b hb⟩) (fun _ _ h => h) (fun hl b hb => hs.blk b ((h.obj i o x ho hx).lt hl hb))
 sep := h.sep
 own := h.own
 tab := h.tab

theorem mem_snoc {α : Type} {l : List α} {y : α} {i : Nat} {x : α} (h : (l ++ [y])[i]? = some x) : l[i]? = some x ∨ (i = l.length ∧ x = y) := by
 rw [List.getElem?_append] at h
 split at h
 ·exact .inl h
 ·rename_i hi
  have : i - l.length = 0 := by
   by_cases h0 : i - l.length = 0
   ·exact h0
   ·rw [List.getElem?_eq_none (by simp; omega)] at h
    cases h
  rw [this] at h
  simp at h
  exact .inr ⟨by omega, h.symm⟩

theorem get_snoc {α : Type} {l : List α} {y : α} {i : Nat} {x : α} (h : l[i]? = some x) : (l ++ [y])[i]? = some x := by
 rw [List.getElem?_append, if_pos (List.getElem?_eq_some_iff.1 h).1]
 exact h

theorem get_lt {α : Type} {l : List α} {i : Nat} {x : α} (h : l[i]? = some x) : i < l.length := (List.getElem?_eq_some_iff.1 h).1

theorem both_snoc {o o' : O} {x x' : Value} {i : Nat} (hlen : β.length = ob.length) (h : (ob ++ [o])[i]? = some o') (k : (β ++ [x])[i]? = some x') :
  (ob[i]? = some o' ∧ β[i]? = some x') ∨ (i = ob.length ∧ o' = o ∧ x' = x) := by
 rcases mem_snoc h with h | ⟨hi, ho⟩ <;> rcases mem_snoc k with k | ⟨hi', hx⟩
 ·exact .inl ⟨h, k⟩
 ·have := get_lt h
  omega
 ·have := get_lt k
  omega
 ·exact .inr ⟨hi, ho, hx⟩

theorem live_snoc {o : O} {x : Value} (hlen : β.length = ob.length) {b : Nat} (h : LiveB (β ++ [x]) (ob ++ [o]) b) : LiveB β ob b ∨ (o.live = true ∧ blk x b) := by
 obtain ⟨i, o', x', ho, hl, hx, hb⟩ := h
 rcases mem_snoc ho with ho | ⟨hi, rfl⟩
 ·rcases mem_snoc hx with hx | ⟨hi, rfl⟩
  ·exact .inl ⟨i, o', x', ho, hl, hx, hb⟩
  ·have := get_lt ho
   omega
 ·rcases mem_snoc hx with hx | ⟨hi', rfl⟩
  ·have := get_lt hx
   omega
  ·exact .inr ⟨hl, hb⟩

theorem ok_snoc {o : O} {x : Value} (hlen : β.length = ob.length) (hnew : o.live = true -> ∀ b, blk x b -> w.heap.size ≤ b) {fl : Bool} {b : Nat} (h : okB cx β ob fl b) (hb : b < w.heap.size) :
  okB cx (β ++ [x]) (ob ++ [o]) fl b := by
 refine okB_of h fun hl => ?_
 rcases live_snoc hlen hl with hl | ⟨hl, hx⟩
 ·exact hl
 ·have := hnew hl b hx
  omega

theorem WRep.new (h : WRep cx β ob w) (hs : Same w w') {o : O} {x : Value} (hnew : o.live = true -> ∀ b, blk x b -> w.heap.size ≤ b)
  (ho : RepO cx w' (okB cx (β ++ [x]) (ob ++ [o])) (β ++ [x]) o x) : WRep cx (β ++ [x]) (ob ++ [o]) w' where
 hs := Nat.le_trans h.hs hs.size
 keep b hb hp := (hs.blk b (Nat.lt_of_lt_of_le hb h.hs)).trans (h.keep b hb hp)
 os := hs.os.trans h.os
 tape := hs.tape.trans h.tape
 out := hs.out.trans h.out
 len := by simp [h.len]
 pre i x hx := get_snoc (h.pre i x hx)
 obj i o' x' ho' hx' := by
  rcases mem_snoc ho' with ho' | ⟨hi, rfl⟩
  ·rcases mem_snoc hx' with hx' | ⟨hi, rfl⟩
   ·exact (h.obj i o' x' ho' hx').mono (fun fl b hok hb => ⟨ok_snoc h.len hnew hok hb, hs.blk b hb⟩) (fun _ _ h => get_snoc h) (fun hl b hb => hs.blk b ((h.obj i o' x' ho' hx').lt hl hb))
   ·have := get_lt ho'
    have := h.len
    omega
  ·rcases mem_snoc hx' with hx' | ⟨hi', rfl⟩
   ·have := get_lt hx'
    have := h.len
    omega
   ·exact ho
 sep i j o1 o2 x1 x2 b h1 h2 l1 l2 k1 k2 b1 b2 := by
  rcases both_snoc h.len h1 k1 with ⟨p1, q1⟩ | ⟨e1, p1, q1⟩ <;> rcases both_snoc h.len h2 k2 with ⟨p2, q2⟩ | ⟨e2, p2, q2⟩
  ·exact h.sep i j _ _ _ _ b p1 p2 l1 l2 q1 q2 b1 b2
  ·subst p2 q2
   have := (h.obj i _ _ p1 q1).lt l1 b1
   have := hnew l2 b b2
   omega
  ·subst p1 q1
   have := (h.obj j _ _ p2 q2).lt l2 b2
   have := hnew l1 b b1
   omega
  ·omega
 own i o' x' b ho' hl hx' hb := by
  rcases both_snoc h.len ho' hx' with ⟨p1, q1⟩ | ⟨e1, p1, q1⟩
  ·exact h.own i o' x' b p1 hl q1 hb
  ·subst p1 q1
   exact .inr (Nat.le_trans h.hs (hnew hl b hb))
 tab := h.tab

theorem mem_set {α : Type} {l : List α} {y : α} {i j : Nat} {x : α} (h : (l.set i y)[j]? = some x) : (j ≠ i ∧ l[j]? = some x) ∨ (j = i ∧ x = y ∧ i < l.length) := by
 rw [List.getElem?_set] at h
 split at h
 ·rename_i hij
  split at h
  ·rename_i hlt
   simp at h
   exact .inr ⟨hij.symm, h.symm, hlt⟩
  ·cases h
 ·rename_i hij
  exact .inl ⟨fun e => hij e.symm, h⟩

theorem live_set_sub {i : Nat} {o : O} {y : Value} (hy : β[i]? = some y) (hsub : ∀ b, o.live = true -> blk y b -> LiveB β ob b) {b : Nat} (h : LiveB β (ob.set i o) b) : LiveB β ob b := by
 obtain ⟨j, o', x', ho, hl, hx, hb⟩ := h
 rcases mem_set ho with ⟨_, ho⟩ | ⟨rfl, rfl, _⟩
 ·exact ⟨j, o', x', ho, hl, hx, hb⟩
 ·rw [hy] at hx
  obtain rfl := Option.some.inj hx
  exact hsub b hl hb

theorem WRep.write (h : WRep cx β ob w) {i : Nat} {o o' : O} {x : Value} (ho : ob[i]? = some o) (hx : β[i]? = some x) (hl : o.live = true)
  (hos : w'.os = w.os) (htape : w'.tape = w.tape) (hout : w'.output = w.output) (hsize : w.heap.size ≤ w'.heap.size)
  (hblk : ∀ b, b < w.heap.size -> ¬ blk x b -> w'.heap[b]? = w.heap[b]?) (hl' : o'.live = true)
  (hr : RepO cx w' (okB cx β (ob.set i o')) β o' x) : WRep cx β (ob.set i o') w' := by
 have hi : i < ob.length := get_lt ho
 have hlive : ∀ b, LiveB β (ob.set i o') b -> LiveB β ob b := fun b hb => live_set_sub hx (fun b _ hb => ⟨i, o, x, ho, hl, hx, hb⟩) hb
 refine ⟨Nat.le_trans h.hs hsize, fun b hb hp => ?_, hos.trans h.os, htape.trans h.tape, hout.trans h.out, by simp [h.len], h.pre, ?_, ?_, ?_, h.tab⟩
 ·rw [hblk b (Nat.lt_of_lt_of_le hb h.hs) (fun e => ?_), h.keep b hb hp]
  rcases h.own i o x b ho hl hx e with h1 | h1
  ·exact hp h1
  ·omega
 ·intro j o1 x1 ho1 hx1
  rcases mem_set ho1 with ⟨hne, ho1⟩ | ⟨rfl, rfl, _⟩
  ·refine (h.obj j o1 x1 ho1 hx1).mono (fun fl b hok hb => ⟨okB_of hok (hlive b), hblk b hb fun e => hok.1 ⟨i, o, x, ho, hl, hx, e⟩⟩) (fun _ _ h => h) (fun hl1 b hb => ?_)
   exact hblk b ((h.obj j o1 x1 ho1 hx1).lt hl1 hb) fun e => hne (h.sep j i o1 o x1 x b ho1 ho hl1 hl hx1 hx hb e)
  ·rw [hx] at hx1
   obtain rfl := Option.some.inj hx1
   exact hr
 ·intro j k o1 o2 x1 x2 b h1 h2 l1 l2 k1 k2 b1 b2
  have e1 : ∃ o3, ob[j]? = some o3 ∧ o3.live = true := by
   rcases mem_set h1 with ⟨_, h1⟩ | ⟨rfl, _, _⟩
   ·exact ⟨_, h1, l1⟩
   ·exact ⟨o, ho, hl⟩
  have e2 : ∃ o3, ob[k]? = some o3 ∧ o3.live = true := by
   rcases mem_set h2 with ⟨_, h2⟩ | ⟨rfl, _, _⟩
   ·exact ⟨_, h2, l2⟩
   ·exact ⟨o, ho, hl⟩
  obtain ⟨p1, q1, r1⟩ := e1
  obtain ⟨p2, q2, r2⟩ := e2
  exact h.sep j k p1 p2 x1 x2 b q1 q2 r1 r2 k1 k2 b1 b2
 ·intro j o1 x1 b ho1 hl1 hx1 hb
  rcases mem_set ho1 with ⟨_, ho1⟩ | ⟨rfl, _, _⟩
  ·exact h.own j o1 x1 b ho1 hl1 hx1 hb
  ·exact h.own j o x1 b ho hl hx1 hb

theorem WRep.drop (h : WRep cx β ob w) {i : Nat} {o' : O} (hl' : o'.live = false)
  (hr : ∀ x, β[i]? = some x -> i < ob.length -> RepO cx w (okB cx β (ob.set i o')) β o' x) : WRep cx β (ob.set i o') w := by
 have hlive : ∀ b, LiveB β (ob.set i o') b -> LiveB β ob b := by
  rintro b ⟨j, o1, x1, h1, l1, k1, b1⟩
  rcases mem_set h1 with ⟨_, h1⟩ | ⟨rfl, rfl, _⟩
  ·exact ⟨j, o1, x1, h1, l1, k1, b1⟩
  ·rw [hl'] at l1
   cases l1
 refine ⟨h.hs, h.keep, h.os, h.tape, h.out, by simp [h.len], h.pre, ?_, ?_, ?_, h.tab⟩
 ·intro j o1 x1 ho1 hx1
  rcases mem_set ho1 with ⟨hne, ho1⟩ | ⟨rfl, rfl, hi⟩
  ·exact (h.obj j o1 x1 ho1 hx1).mono (fun fl b hok _ => ⟨okB_of hok (hlive b), rfl⟩) (fun _ _ h => h) (fun _ _ _ => rfl)
  ·exact hr x1 hx1 hi
 ·intro j k o1 o2 x1 x2 b h1 h2 l1 l2 k1 k2 b1 b2
  rcases mem_set h1 with ⟨_, h1⟩ | ⟨rfl, rfl, _⟩
  ·rcases mem_set h2 with ⟨_, h2⟩ | ⟨rfl, rfl, _⟩
   ·exact h.sep j k o1 o2 x1 x2 b h1 h2 l1 l2 k1 k2 b1 b2
   ·rw [hl'] at l2
    cases l2
  ·rw [hl'] at l1
   cases l1
 ·intro j o1 x1 b ho1 hl1 hx1 hb
  rcases mem_set ho1 with ⟨_, ho1⟩ | ⟨rfl, rfl, _⟩
  ·exact h.own j o1 x1 b ho1 hl1 hx1 hb
  ·rw [hl'] at hl1
   cases hl1

theorem row_reads {ok ok' : Bool -> Nat -> Prop} {s : Sq} {x : Value} {fl : Bool} (h : RepO cx w ok β (.row s) x) (hok : ∀ b, blk x b -> ok' fl b) (hin : ∀ b, ok s.fl b -> b < w.heap.size -> ok' fl b) :
  ∃ A c, x = .slice A s.xs.length c ∧ s.xs.length ≤ c ∧ RowR w (ok' fl) s.t s.xs A := by
 obtain ⟨cells, ho, _, hc⟩ := h
 rcases ho.2 with ⟨rfl, hn⟩ | ⟨g, cap, cur, rfl, _, hg, hcap, _, hcur, htake⟩
 ·exact ⟨none, 0, by rw [hn], by omega, fun hpos => by omega⟩
 ·refine ⟨some ⟨g, 0, none⟩, cap, rfl, hcap, fun _ => ⟨_, rfl, hok g rfl, fun j hj => ?_⟩⟩
  obtain ⟨cs, h1, h2⟩ := hc j s.xs[j] (List.getElem?_eq_getElem hj)
  refine ⟨cs, ⟨_, List.getElem?_eq_getElem hj, h1.mono fun b hb hlt => ⟨hin b hb hlt, rfl⟩⟩, fun k u hu => ?_⟩
  exact ho.cells rfl _ u (h2 k u hu)

theorem LiveB_of {i : Nat} {o : O} {x : Value} {b : Nat} (ho : ob[i]? = some o) (hx : β[i]? = some x) (hl : o.live = true) (hb : blk x b) : LiveB β ob b := ⟨i, o, x, ho, hl, hx, hb⟩

theorem WRep.freeze (h : WRep cx β ob w) {i : Nat} {s : Sq} (ho : ob[i]? = some (.row s)) : WRep cx β (ob.set i (.frz s)) w := by
 refine h.drop rfl fun x hx hi => ?_
 have hlive : ∀ b, LiveB β (ob.set i (.frz s)) b -> LiveB β ob b := by
  rintro b ⟨j, o1, x1, h1, l1, k1, b1⟩
  rcases mem_set h1 with ⟨_, h1⟩ | ⟨rfl, rfl, _⟩
  ·exact ⟨j, o1, x1, h1, l1, k1, b1⟩
  ·simp [O.live] at l1
 have hr := h.obj i _ x ho hx
 refine row_reads (ok' := okB cx β (ob.set i (.frz s))) (fl := s.fl) hr (fun b hb => ⟨?_, ?_⟩) (fun b hb _ => okB_of hb (hlive b))
 ·rintro ⟨j, o1, x1, h1, l1, k1, b1⟩
  rcases mem_set h1 with ⟨hne, h1⟩ | ⟨rfl, rfl, _⟩
  ·exact hne (h.sep j i o1 _ x1 x b h1 ho l1 rfl k1 hx b1 hb)
  ·simp [O.live] at l1
 ·rcases h.own i _ x b ho rfl hx hb with h1 | h1
  ·cases hfl : s.fl with
   |true =>
    obtain ⟨_, _, hf, _⟩ := hr
    exact .inl (hf hfl b hb)
   |false => exact .inr ⟨rfl, .inr h1⟩
  ·exact .inl h1


theorem inn_some {s q : Sq} {j : Nat} (h : s.inn j = some q) : ∃ (fl : Bool) (e0 e : TypeId) (t : Ty) (xs : List (List t.S)), s = ⟨fl, e0, .sl e t, xs⟩ ∧ q = ⟨fl, e, t, xs.getD j []⟩ := by
 obtain ⟨fl, e0, t, xs⟩ := s
 cases t with
 |sl e t =>
  simp only [Sq.inn, Option.some.injEq] at h
  exact ⟨fl, e0, e, t, xs, rfl, h.symm⟩
 |_ => simp [Sq.inn] at h

theorem OwnEl.reads {s : Sq} {x : Value} {ok' : Nat -> Prop} (h : OwnEl w s x) (hf : s.t.flat = true) (hok : ∀ b, blk x b -> ok' b) :
  ∃ A c, x = .slice A s.xs.length c ∧ s.xs.length ≤ c ∧ RowR w ok' s.t s.xs A := by
 obtain ⟨cells, ho, hc⟩ := h
 rcases ho.2 with ⟨rfl, hn⟩ | ⟨g, cap, cur, rfl, _, hg, hcap, _, hcur, htake⟩
 ·exact ⟨none, 0, by rw [hn], by omega, fun hpos => by omega⟩
 ·refine ⟨some ⟨g, 0, none⟩, cap, rfl, hcap, fun _ => ⟨_, rfl, hok g rfl, fun j hj => ?_⟩⟩
  obtain ⟨cs, h1, h2⟩ := hc j s.xs[j] (List.getElem?_eq_getElem hj)
  refine ⟨cs, ⟨_, List.getElem?_eq_getElem hj, h1.of_flat hf⟩, fun k u hu => ?_⟩
  exact ho.cells rfl _ u (h2 k u hu)

theorem cell_off {g off j : Nat} : (⟨g, off, none⟩ : Addr).add j = ⟨g, off + j, none⟩ := by unfold Addr.add; split <;> simp_all

theorem nest_reads {ok ok' : Bool -> Nat -> Prop} {s : Sq} {y : Value} {vs : List Value} {fl : Bool} (h : RepO cx w ok β (.nst s) (.tuple (y :: vs).toArray)) (hok : ∀ b, blk (.tuple (y :: vs).toArray) b -> ok' fl b) :
  ∃ A c, y = .slice A s.xs.length c ∧ s.xs.length ≤ c ∧ RowR w (ok' fl) s.t s.xs A := by
 obtain ⟨y', vs', he, hl, hz, ho, hin, hf, hd⟩ := h
 have he := List.cons.inj (by simpa using he : y :: vs = y' :: vs')
 obtain ⟨rfl, rfl⟩ := he
 rcases ho with ⟨rfl, hn⟩ | ⟨g, off, cap, cur, rfl, hg, hcap, _, hcur, hce⟩
 ·rw [hn] at hl
  exact ⟨none, 0, by rw [← hl]; rfl, by rw [← hl]; exact Nat.zero_le _, fun hpos => by rw [← hl] at hpos; exact absurd hpos (Nat.lt_irrefl 0)⟩
 ·refine ⟨some ⟨g, off, none⟩, cap, by rw [hl], by rw [← hl]; exact hcap, fun _ => ⟨_, rfl, hok g (blk_tuple.2 ⟨_, List.mem_cons_self, rfl⟩), fun j hj => ?_⟩⟩
  have hjv : j < vs.length := by rw [hl]; exact hj
  obtain ⟨q, h1, h2, h3⟩ := hin j vs[j] (List.getElem?_eq_getElem hjv)
  obtain ⟨A, c, h4, h5, h6⟩ := h3.reads (ok' := ok' fl) h2 fun b hb => by
   obtain ⟨cells, hown, _⟩ := h3
   exact hok b (blk_tuple.2 ⟨_, List.mem_cons_of_mem _ (List.getElem_mem hjv), (own_blk1 hown b).1 hb⟩)
  obtain ⟨fl1, e0, e, t, xs, rfl, rfl⟩ := inn_some h1
  have hx : xs[j]? = some xs[j] := List.getElem?_eq_getElem hj
  have hgd : xs.getD j [] = xs[j] := by rw [List.getD_eq_getElem?_getD, hx]; rfl
  simp only [hgd] at h4 h5 h6
  refine ⟨[vs[j]], ⟨_, hx, A, c, by rw [h4], h5, h6⟩, fun k u hu => ?_⟩
  have hk : k = 0 := by
   have := get_lt hu
   simpa using this
  subst hk
  have hu : vs[j] = u := by simpa using hu
  show w.cell? ((⟨g, off, none⟩ : Addr).add (j * 1 + 0)) = some u
  rw [cell_off, ← hu, hg.cell]
  rw [show off + (j * 1 + 0) = off + j from by omega]
  have := hce j vs[j] (List.getElem?_eq_getElem hjv)
  simpa using this

theorem RepO.nst_eq {ok : Bool -> Nat -> Prop} {s : Sq} {x : Value} (h : RepO cx w ok β (.nst s) x) : ∃ y vs, x = .tuple (y :: vs).toArray := by
 obtain ⟨y, vs, rfl, _⟩ := h
 exact ⟨y, vs, rfl⟩

theorem WRep.freezeN (h : WRep cx β ob w) {i : Nat} {s : Sq} (ho : ob[i]? = some (.nst s)) : WRep cx β (ob.set i (.frn s)) w := by
 refine h.drop rfl fun x hx hi => ?_
 have hr := h.obj i _ x ho hx
 obtain ⟨y, vs, rfl⟩ := hr.nst_eq
 have hok : ∀ b, blk (.tuple (y :: vs).toArray) b -> okB cx β (ob.set i (.frn s)) s.fl b := fun b hb => by
  refine ⟨?_, ?_⟩
  ·rintro ⟨j, o1, x1, h1, l1, k1, b1⟩
   rcases mem_set h1 with ⟨hne, h1⟩ | ⟨rfl, rfl, _⟩
   ·exact hne (h.sep j i o1 _ x1 _ b h1 ho l1 rfl k1 hx b1 hb)
   ·simp [O.live] at l1
  ·rcases h.own i _ _ b ho rfl hx hb with h1 | h1
   ·cases hfl : s.fl with
    |true =>
     obtain ⟨_, _, _, _, _, _, _, hf, _⟩ := hr
     exact .inl (hf hfl b hb)
    |false => exact .inr ⟨rfl, .inr h1⟩
   ·exact .inl h1
 obtain ⟨A, c, h1, h2, h3⟩ := nest_reads (ok' := okB cx β (ob.set i (.frn s))) (fl := s.fl) hr hok
 exact ⟨y, vs, A, c, rfl, h1, h2, h3⟩

theorem CelO.reads {ok' : Nat -> Prop} : ∀ {t : Ty} {x : t.S} {cs us : List Value}, CelO w t x cs us -> (∀ u ∈ us, ∀ b, blk1 u = some b -> ok' b) -> Cel w ok' t x cs
 |.int _, _, _, _, h, _ => h.1
 |.bool, _, _, _, h, _ => h.1
 |.str, _, _, _, h, _ => h.1
 |.sl _ _, _, _, _, ⟨hf, u, h1, h2, h3⟩, hb => by
  obtain ⟨A, c, h4, h5, h6⟩ := h3.reads (ok' := ok') hf fun b hb1 => by
   obtain ⟨cells, hown, _⟩ := h3
   exact hb u (by rw [h2]; exact List.mem_singleton.2 rfl) b ((own_blk1 hown b).1 hb1)
  exact ⟨A, c, by rw [h1, h4], h5, h6⟩
 |.pr _ _, _, _, _, ⟨c1, c2, u1, u2, h1, h2, h3, h4⟩, hb => ⟨c1, c2, h1, h3.reads fun u hu => hb u (by rw [h2]; exact List.mem_append_left _ hu), h4.reads fun u hu => hb u (by rw [h2]; exact List.mem_append_right _ hu)⟩

theorem sub_get {α : Type} {l : List α} {i n k : Nat} {x : α} (h : ((l.drop i).take n)[k]? = some x) : l[i + k]? = some x := by
 rw [List.getElem?_take] at h
 split at h
 ·rwa [List.getElem?_drop] at h
 ·cases h

theorem fst_reads {ok ok' : Bool -> Nat -> Prop} {s : Sq} {y : Value} {vs : List Value} {fl : Bool} (h : RepO cx w ok β (.fst s 0) (.tuple (y :: vs).toArray)) (hok : ∀ b, blk (.tuple (y :: vs).toArray) b -> ok' fl b) :
  ∃ A c, y = .slice A s.xs.length c ∧ s.xs.length ≤ c ∧ RowR w (ok' fl) s.t s.xs A := by
 obtain ⟨y', vs', cells, he, ho, hl, hin, hc, hf, hd⟩ := h
 have he := List.cons.inj (by simpa using he : y :: vs = y' :: vs')
 obtain ⟨rfl, rfl⟩ := he
 rcases ho.2 with ⟨rfl, hn⟩ | ⟨g, cap, cur, rfl, _, hg, hcap, _, hcur, htake⟩
 ·exact ⟨none, 0, by rw [hn], by omega, fun hpos => by omega⟩
 ·refine ⟨some ⟨g, 0, none⟩, cap, rfl, hcap, fun _ => ⟨_, rfl, hok g (blk_tuple.2 ⟨_, List.mem_cons_self, rfl⟩), fun j hj => ?_⟩⟩
  have h1 := hc j s.xs[j] (List.getElem?_eq_getElem hj) (Nat.zero_le _)
  exact ⟨_, ⟨_, List.getElem?_eq_getElem hj, h1.reads fun u hu b hb => hok b (blk_tuple.2 ⟨u, List.mem_cons_of_mem _ (sub_mem hu), hb⟩)⟩, fun k u hu => ho.cells rfl _ u (sub_get hu)⟩

theorem WRep.freezeF (h : WRep cx β ob w) {i : Nat} {s : Sq} (ho : ob[i]? = some (.fst s 0)) : WRep cx β (ob.set i (.frn s)) w := by
 refine h.drop rfl fun x hx hi => ?_
 have hr := h.obj i _ x ho hx
 obtain ⟨y, vs, cells, rfl, _, _, _, _, hf, _⟩ := id hr
 have hok : ∀ b, blk (.tuple (y :: vs).toArray) b -> okB cx β (ob.set i (.frn s)) s.fl b := fun b hb => by
  refine ⟨?_, ?_⟩
  ·rintro ⟨j, o1, x1, h1, l1, k1, b1⟩
   rcases mem_set h1 with ⟨hne, h1⟩ | ⟨rfl, rfl, _⟩
   ·exact hne (h.sep j i o1 _ x1 _ b h1 ho l1 rfl k1 hx b1 hb)
   ·simp [O.live] at l1
  ·rcases h.own i _ _ b ho rfl hx hb with h1 | h1
   ·cases hfl : s.fl with
    |true => exact .inl (hf hfl b hb)
    |false => exact .inr ⟨rfl, .inr h1⟩
   ·exact .inl h1
 obtain ⟨A, c, h1, h2, h3⟩ := fst_reads (ok' := okB cx β (ob.set i (.frn s))) (fl := s.fl) hr hok
 exact ⟨y, vs, A, c, rfl, h1, h2, h3⟩

theorem freezeAt_cases (ob : List O) (i : Nat) : freezeAt ob i = ob ∨ (∃ s, ob[i]? = some (.row s) ∧ freezeAt ob i = ob.set i (.frz s)) ∨ (∃ s, ob[i]? = some (.nst s) ∧ freezeAt ob i = ob.set i (.frn s)) ∨
  ∃ s, ob[i]? = some (.fst s 0) ∧ freezeAt ob i = ob.set i (.frn s) := by
 unfold freezeAt
 split
 ·rename_i s h
  exact .inr (.inl ⟨s, h, rfl⟩)
 ·rename_i s h
  exact .inr (.inr (.inl ⟨s, h, rfl⟩))
 ·rename_i s h
  exact .inr (.inr (.inr ⟨s, h, rfl⟩))
 ·exact .inl rfl

theorem live_dead {i : Nat} {o : O} (hl : o.live = false) {b : Nat} (h : LiveB β (ob.set i o) b) : LiveB β ob b := by
 obtain ⟨j, o1, x1, h1, l1, k1, b1⟩ := h
 rcases mem_set h1 with ⟨_, h1⟩ | ⟨rfl, rfl, _⟩
 ·exact ⟨j, o1, x1, h1, l1, k1, b1⟩
 ·rw [hl] at l1
  cases l1

theorem WRep.freezeAt (h : WRep cx β ob w) (i : Nat) : WRep cx β (Ev.freezeAt ob i) w ∧ ∀ b, LiveB β (Ev.freezeAt ob i) b -> LiveB β ob b := by
 rcases freezeAt_cases ob i with e | ⟨s, h1, e⟩ | ⟨s, h1, e⟩ | ⟨s, h1, e⟩ <;> rw [e]
 ·exact ⟨h, fun _ h => h⟩
 ·exact ⟨h.freeze h1, fun b => live_dead rfl⟩
 ·exact ⟨h.freezeN h1, fun b => live_dead rfl⟩
 ·exact ⟨h.freezeF h1, fun b => live_dead rfl⟩

theorem WRep.gone (h : WRep cx β ob w) (i : Nat) : WRep cx β (ob.set i .gone) w := h.drop rfl fun _ _ _ => trivial

end Go.Ev
