/- Each operation of the abstract machine is one of the machine's: length, append. -/
import Derived.Test.YtjjdadbbiciigaaGreatDoorPoEvOps6
import Derived.Lib.AppendZeros
import Derived.Lib.AppendStr
namespace Go.Ev
open Go.Lib
set_option linter.unusedVariables false
set_option linter.unusedSimpArgs false
set_option linter.unusedSectionVars false
variable [tG : TabG]

variable {P : Program} {R : Type} {cx : Cx} {β β' : List Value} {ob ob' : List O} {w w' : World} {σ σ' : St} {a a' : Act}
variable {o : Oper} {K : AV -> St -> Option R} {r : R} {Q : Exit -> Act -> World -> Prop} {Γ : FuncId -> Option Sum}

theorem seenN_cases {x : AV} {s : Sq} (h : seenN ob x = some s) : (∃ i, x = .nst i) ∨ seen ob x = some s := by
 unfold seenN at h
 split at h
 ·exact .inl ⟨_, rfl⟩
 ·exact .inr h

theorem seenN_len (hW : WRep cx β ob w) {x : AV} {v : Value} {s : Sq} (h : seenN ob x = some s) (hr : RepV w (okB cx β ob) β x v) : ∃ A c, v = .slice A s.xs.length c := by
 rcases seenN_cases h with ⟨i, rfl⟩ | h
 ·obtain ⟨_, A, c, _, h1, _⟩ := nst_slice hW h hr
  exact ⟨A, c, h1⟩
 ·obtain ⟨A, c, h1, _⟩ := seen_rep hW h hr
  exact ⟨A, c, h1⟩

theorem view_val {ok : Bool -> Nat -> Prop} {i z lo n : Nat} {v : Value} (h : RepV w ok β (.view i z lo n) v) : ∃ A c, v = .slice A n c := by
 cases h with
 |view _ _ _ _ A0 L c0 A hb hn hL hA => exact ⟨_, _, rfl⟩

theorem len_run {t ty : TypeId} {v : Value} {n : Nat} (w : World) (h : (∃ e, P.underlying t = some (.slice e)) ∧ (∃ A c, v = .slice A n c) ∨ (P.underlying t = some .string ∧ ∃ s : ByteArray, v = .string s ∧ n = s.size)) :
  (Builtin.len_ #[t] ty #[v]).run P w = .ok (.int .i64 n) w := by
 rcases h with ⟨⟨e, hu⟩, A, c, rfl⟩ | ⟨hu, s, rfl, rfl⟩
 ·simp [Builtin.len_, run_underlying hu, goInt]
 ·simp [Builtin.len_, run_underlying hu, goInt]

theorem own_blk {v : Value} {n sz : Nat} {e : TypeId} {xs : List Value} (h : ownsM w e sz v n xs) (b : Nat) : v.ownBlock = some b ↔ blk v b := by
 rcases h.2 with ⟨rfl, _⟩ | ⟨g, cap, cur, rfl, _⟩
 ·simp [Value.ownBlock, blk, blk1]
 ·simp [Value.ownBlock, blk, blk1]

theorem append_res {i : Nat} {s : Sq} {v0 v v' : Value} {fr : List AV} {xs ys : List s.t.S} {fl2 : Bool} {cells news : List Value} (hW : WRep cx β ob w) (hA : ARep w (okB cx β ob) β fr a)
  (ho : ob[i]? = some (.row s)) (hv : β[i]? = some v0) (hbv : ∀ b, blk v b -> blk v0 b) (hown : ownsM w s.e s.t.sz v xs.length cells)
  (hc : ∀ j y, xs[j]? = some y -> ∃ cs, Cel w (okB cx β ob s.fl) s.t y cs ∧ ∀ (k : Nat) (u : Value), cs[k]? = some u -> cells[j * s.t.sz + k]? = some u)
  (hown' : ownsM w' s.e s.t.sz v' (xs.length + ys.length) (cells ++ news)) (hg : w.grownBy w' v.ownBlock) (hat : v'.ownBlock = v.ownBlock ∨ v'.ownBlock = some w.heap.size)
  (hnews : ∀ j y, ys[j]? = some y -> ∃ cs, Cel w (okB cx β ob fl2) s.t y cs ∧ ∀ (k : Nat) (u : Value), cs[k]? = some u -> news[j * s.t.sz + k]? = some u) :
  Res cx (β ++ [v']) ⟨fr, ob.set i .gone ++ [.row ⟨s.fl && fl2, s.e, s.t, xs ++ ys⟩]⟩ (.own ob.length) a v' w' ∧ Ext 0 β ob w (β ++ [v']) (ob.set i .gone ++ [.row ⟨s.fl && fl2, s.e, s.t, xs ++ ys⟩]) := by
 have hat' : ∀ b, blk v' b -> blk v0 b ∨ b = w.heap.size := fun b hb => by
  have hb' := (own_blk hown' b).2 hb
  rcases hat with h | h
  ·exact .inl (hbv b ((own_blk hown b).1 (by rw [← h]; exact hb')))
  ·rw [h] at hb'
   exact .inr (Option.some.inj hb').symm
 obtain ⟨_, _, hfr, _⟩ := hW.obj i _ v0 ho hv
 obtain ⟨m1, m2, m3⟩ := hW.merge (w' := w') (is := [i]) (o := .row ⟨s.fl && fl2, s.e, s.t, xs ++ ys⟩) (x := v') rfl (fun b hb hx => by
   rcases hat' b hx with h | h
   ·exact ⟨i, by simp, _, v0, ho, rfl, hv, h⟩
   ·omega) hg.os hg.tape hg.output hg.size (fun b hb h => hg.block b hb fun e => h i (by simp) _ v0 ho rfl hv (hbv b ((own_blk hown b).1 e.symm))) (fun hm => by
   refine ⟨cells ++ news, by simpa using hown', fun hfl b hb => ?_, fun j y hy => ?_⟩
   ·rcases hat' b hb with h | h
    ·exact hfr (Bool.and_eq_true_iff.1 hfl).1 b h
    ·rw [h]
     exact hW.hs
   ·have w1 : (s.fl && fl2) = true -> s.fl = true := fun h => (Bool.and_eq_true_iff.1 h).1
    have w2 : (s.fl && fl2) = true -> fl2 = true := fun h => (Bool.and_eq_true_iff.1 h).2
    have hy' : (xs ++ ys)[j]? = some y := hy
    rw [List.getElem?_append] at hy'
    split at hy'
    ·obtain ⟨cs, h1, h2⟩ := hc j y hy'
     refine ⟨cs, (h1.weaken w1).mono (hm _), fun k u hu => ?_⟩
     have := h2 k u hu
     show (cells ++ news)[j * s.t.sz + k]? = some u
     rw [List.getElem?_append, if_pos (get_lt this)]
     exact this
    ·rename_i hj
     obtain ⟨cs, h1, h2⟩ := hnews _ y hy'
     refine ⟨cs, (h1.weaken w2).mono (hm _), fun k u hu => ?_⟩
     have := h2 k u hu
     show (cells ++ news)[j * s.t.sz + k]? = some u
     have hcl := hown.1
     have hjz : xs.length * s.t.sz ≤ j * s.t.sz := Nat.mul_le_mul_right _ (by omega)
     rw [List.getElem?_append, if_neg (by omega), hcl, ← this, Nat.sub_mul]
     congr 1
     omega)
 refine ⟨⟨m1, hA.mono m2 fun _ _ h => get_snoc h, .own _ _ ?_⟩, m3⟩
 rw [← hW.len]
 simp

theorem addend_src {t t' : TypeId} {i : RowI} {y : AV} {vy : Value} {s2 : Sq} (hW : WRep cx β ob w) (hri : rowI P t = some i) (hadd : addend i (t' == t) (isStrT P t' && isByteT P i.e) ob y = some s2)
  (hyr : RepV w (okB cx β ob) β y vy) (ht2 : s2.t = i.t) :
  ∃ news, Src P t' w i.t.sz vy s2.xs.length news ∧ ∀ j y, s2.xs[j]? = some y -> ∃ cs, Cel w (okB cx β ob s2.fl) s2.t y cs ∧ ∀ (k : Nat) (u : Value), cs[k]? = some u -> news[j * s2.t.sz + k]? = some u := by
 obtain ⟨ie, z, hut, hie, hsz, hby, hz, hzo, hb16, hbpos⟩ := tyOf_row hri
 -- a slice's value
 have slice : ∀ {A : Option Addr} {c : Nat}, vy = .slice A s2.xs.length c -> t' = t →
   (∀ hpos : 0 < s2.xs.length, ∃ ad, A = some ad ∧ ∀ j, j < s2.xs.length -> ∃ cs y, s2.xs[j]? = some y ∧ Cel w (okB cx β ob s2.fl) s2.t y cs ∧ ∀ (k : Nat) (u : Value), cs[k]? = some u -> w.cell? (ad.add (j * s2.t.sz + k)) = some u) →
   ∃ news, Src P t' w i.t.sz vy s2.xs.length news ∧ ∀ j y, s2.xs[j]? = some y -> ∃ cs, Cel w (okB cx β ob s2.fl) s2.t y cs ∧ ∀ (k : Nat) (u : Value), cs[k]? = some u -> news[j * s2.t.sz + k]? = some u := by
  intro A c hv ht hrow
  subst hv ht
  have hnews : ∃ news : List Value, news.length = s2.xs.length * s2.t.sz ∧ (∀ ad, A = some ad -> ∀ (k : Nat) (u : Value), news[k]? = some u -> w.cell? (ad.add k) = some u) ∧ (∀ u ∈ news, u.oneCell' = true) ∧
    ∀ j y, s2.xs[j]? = some y -> ∃ cs, Cel w (okB cx β ob s2.fl) s2.t y cs ∧ ∀ (k : Nat) (u : Value), cs[k]? = some u -> news[j * s2.t.sz + k]? = some u := by
   rcases Nat.eq_zero_or_pos s2.xs.length with h0 | h0
   ·refine ⟨[], by simp [h0], fun _ _ k u hu => by simp at hu, fun u hu => by simp at hu, fun j y hy => ?_⟩
    have := get_lt hy
    omega
   ·obtain ⟨ad, hA, hel⟩ := hrow h0
    obtain ⟨news, n1, n2, n3, n4⟩ := all_cells s2.xs.length (Nat.le_refl _) hel
    refine ⟨news, n1, fun ad' he => ?_, n3, fun j y hy => n4 j y (get_lt hy) hy⟩
    rw [hA] at he
    obtain rfl := Option.some.inj he
    exact n2
  obtain ⟨news, n1, n2, n3, n4⟩ := hnews
  refine ⟨news, Src.slice hut (fun hA => ?_) (n1.trans (by have := congrArg Ty.sz ht2; rw [this])) n2 n3, n4⟩
  rcases Nat.eq_zero_or_pos s2.xs.length with h0 | h0
  ·exact h0
  ·obtain ⟨ad, he, _⟩ := hrow h0
   rw [hA] at he
   cases he
 unfold addend at hadd
 split at hadd
 ·rename_i A c
  split at hadd
  ·rename_i htt
   obtain rfl := Option.some.inj hadd
   exact slice (A := A) (c := c) (rep_v hyr) (by simpa using htt) fun hpos => by simp at hpos
  ·cases hadd
 ·rename_i b
  split at hadd
  ·rename_i hst
   obtain rfl := Option.some.inj hadd
   rw [Bool.and_eq_true] at hst
   obtain ⟨h1, h2⟩ := hst
   have hu : P.underlying t' = some .string := by
    unfold isStrT at h1
    split at h1
    ·assumption
    ·cases h1
   unfold isByteT at h2
   split at h2
   ·rename_i ie' hu8 hie'
    rw [hie] at hie'
    obtain rfl := Option.some.inj hie'
    simp only [Bool.and_eq_true, beq_iff_eq] at h2
    obtain ⟨⟨b1, b2⟩, b3⟩ := h2
    have hsz1 : i.t.sz = 1 := by rw [← hsz, b2]
    have hbl : (bts b).length = b.size := by simp [bts]
    refine ⟨strCells b, ?_, fun j y hy => ?_⟩
    ·rw [rep_v hyr, hsz1]
     simp only [hbl]
     exact Src.str b hu
    refine ⟨[.int .u8 y], rfl, fun k u hu => ?_⟩
    have hk : k = 0 := by
     have := get_lt hu
     simp at this
     exact this
    subst hk
    simp at hu
    subst hu
    have hy' : (bts b)[j]? = some y := hy
    show (strCells b)[j * 1 + 0]? = _
    simp only [bts, strCells, Nat.mul_one, Nat.add_zero] at hy' ⊢
    rw [List.getElem?_map] at hy' ⊢
    cases hq : b.data.toList[j]? with
    |none => rw [hq] at hy'; cases hy'
    |some q =>
     rw [hq] at hy'
     simp at hy'
     subst hy'
     simp
   ·cases h2
  ·cases hadd
 ·split at hadd
  ·rename_i htt
   split at hadd
   ·rename_i q hq
    obtain rfl := Option.some.inj hadd
    obtain ⟨A, c, hv, _, hrow⟩ := seen_rep hW hq hyr
    refine slice hv (by simpa using htt) fun hpos => ?_
    obtain ⟨ad, hA, hel⟩ := hrow hpos
    refine ⟨ad, hA, fun j hj => ?_⟩
    obtain ⟨cs, y', h1, h2, h3⟩ := hel j hj
    refine ⟨cs, y', h1, ?_, h3⟩
    cases hf : q.t.flat with
    |true => exact h2.of_flat hf
    |false => exact h2.weaken (by simp)
   ·cases hadd
  ·cases hadd

theorem lim_max {i : RowI} {n : Nat} (hpos : 0 < i.bytes) (h : n * i.bytes ≤ lim) : n ≤ maxLen ∧ n * i.bytes ≤ 140737488355328 := by
 have h' : n * i.bytes ≤ 140737488355328 := h
 have h1 : n * 1 ≤ n * i.bytes := Nat.mul_le_mul_left _ hpos
 refine ⟨?_, h'⟩
 unfold maxLen
 omega

theorem append_main {t t' ty : TypeId} {i : RowI} {y : AV} {vy v : Value} {n : Nat} {cells : List Value} {s2 : Sq} (hW : WRep cx β ob w) (hri : rowI P t = some i) (hadd : addend i (t' == t) (isStrT P t' && isByteT P i.e) ob y = some s2)
  (hyr : RepV w (okB cx β ob) β y vy) (hown : ownsM w i.e i.t.sz v n cells) (ht2 : s2.t = i.t) (hlim : (n + s2.xs.length) * i.bytes ≤ lim) :
  ∃ v1 w1 news, (Builtin.append_ #[t, t'] ty #[v, vy]).run P w = .ok v1 w1 ∧ ownsM w1 i.e i.t.sz v1 (n + s2.xs.length) (cells ++ news) ∧ w.grownBy w1 v.ownBlock ∧ (v1.ownBlock = v.ownBlock ∨ v1.ownBlock = some w.heap.size) ∧
   ∀ j y, s2.xs[j]? = some y -> ∃ cs, Cel w (okB cx β ob s2.fl) s2.t y cs ∧ ∀ (k : Nat) (u : Value), cs[k]? = some u -> news[j * s2.t.sz + k]? = some u := by
 obtain ⟨ie, z, hut, hie, hsz, hby, hz, hzo, hb16, hbpos⟩ := tyOf_row hri
 obtain ⟨hmax, hlim'⟩ := lim_max hbpos hlim
 have hzl : z.cells.size = i.t.sz := by simpa using (zero_cel (w := w) (ok := okB cx β ob true) i.t z.cells.toList hzo).len
 obtain ⟨news, hs, hn⟩ := addend_src hW hri hadd hyr ht2
 rw [← hsz] at hs hown hzl ⊢
 obtain ⟨v1, w1, r1, r2, r3, r4⟩ := run_append_M (ty := ty) hut hie hz hzl (by rw [hsz]; exact i.t.sz_pos) hs hown hmax (by rw [hby]; exact hlim')
 refine ⟨v1, w1, news, r1, r2, r3, ?_, hn⟩
 rcases r4 with ⟨A, c, e1, e2, _⟩ | ⟨h, _⟩
 ·left
  rw [e1, e2]
  cases A <;> rfl
 ·exact .inr h

/-! ### Appends to rows of nests, and of nests -/

theorem Inner.same {s : Sq} {vs : List Value} (h : Inner w s vs) {j : Nat} {u : Value} (hj : vs[j]? = some u) {q : Sq} (hq : s.inn j = some q) (hu : OwnEl w' q u)
  (hb : ∀ (k : Nat) (v : Value), k ≠ j -> vs[k]? = some v -> ∀ b, blk1 v = some b -> w'.heap[b]? = w.heap[b]?) : Inner w' s vs := by
 intro k v hk
 by_cases hkj : k = j
 ·subst hkj
  rw [hj] at hk
  obtain rfl := Option.some.inj hk
  obtain ⟨q', h1, h2, _⟩ := h k u hj
  rw [hq] at h1
  obtain rfl := Option.some.inj h1
  exact ⟨q, hq, h2, hu⟩
 ·obtain ⟨q', h1, h2, h3⟩ := h k v hk
  refine ⟨q', h1, h2, h3.move h2 fun b hbv => hb k v hkj hk b ?_⟩
  obtain ⟨cells, hown, _⟩ := h3
  exact (own_blk1 hown b).1 hbv

theorem set_same {α : Type} {l : List α} {i : Nat} {x : α} (h : l[i]? = some x) : l.set i x = l := by
 apply List.ext_getElem?
 intro k
 rw [List.getElem?_set]
 split
 ·rename_i hk
  subst hk
  rw [if_pos (get_lt h), h]
 ·rfl

theorem nest_beyond (hW : WRep cx β ob w) {i j : Nat} {s q : Sq} {y : Value} {vs : List Value} {A : Option Addr} {n m c : Nat} {cells : List Value} (hob : ob[i]? = some (.nst s)) (hb : β[i]? = some (.tuple (y :: vs).toArray)) (hj : vs[j]? = some (.slice A n c)) (hq : s.inn j = some q)
  (hnm : n ≤ m) (hg : w.grownBy w' (Value.slice A n c).ownBlock) (hown : ownsM w' q.e q.t.sz (.slice A m c) m cells)
  (hold : ∀ xs, ownsM w q.e q.t.sz (.slice A n c) n xs -> xs = cells.take (n * q.t.sz)) :
  WRep cx β ob w' ∧ (∀ fl b, okB cx β ob fl b -> b < w.heap.size -> okB cx β ob fl b ∧ w'.heap[b]? = w.heap[b]?) ∧ (∀ b, b < w.heap.size -> ¬ touch 1 β ob b -> w'.heap[b]? = w.heap[b]?) := by
 have hO := hW.obj i _ _ hob hb
 obtain ⟨y', vs', e, hlen, hz, hoff, hin, hfr, hd⟩ := hO
 have e := List.cons.inj (by simpa using e : y :: vs = y' :: vs')
 obtain ⟨rfl, rfl⟩ := e
 have hbo : ∀ b, (Value.slice A n c).ownBlock = some b ↔ blk1 (.slice A n c) = some b := fun b => by cases A <;> rfl
 have hblk : ∀ b, blk1 (.slice A n c) = some b -> blk (.tuple (y :: vs).toArray) b := fun b h => blk_tuple.2 ⟨_, List.mem_cons_of_mem _ (List.mem_of_getElem? hj), h⟩
 have hne : ∀ (p : Nat) (u : Value) (b : Nat), (y :: vs)[p]? = some u -> p ≠ j + 1 -> blk1 u = some b -> b < w.heap.size -> w'.heap[b]? = w.heap[b]? := fun p u b hp hpj hbu hlt =>
  hg.block b hlt fun e => hpj (hd p (j + 1) u _ b hp (by simpa using hj) hbu ((hbo b).1 e.symm))
 obtain ⟨q1, h1, h2, h3⟩ := hin j _ hj
 rw [hq] at h1
 obtain rfl := Option.some.inj h1
 obtain ⟨xs, hx, hc⟩ := h3
 have hn : n = q.xs.length := by
  rcases hx.2 with ⟨e, h0⟩ | ⟨_, _, _, e, _⟩
  ·rw [(Value.slice.inj e).2.1, h0]
  ·exact (Value.slice.inj e).2.1
 have hel : OwnEl w' q (.slice A n c) := by
  refine ⟨cells.take (n * q.t.sz), by rw [← hn]; exact hown.shorter hnm, fun k u hu => ?_⟩
  obtain ⟨cs, k1, k2⟩ := hc k u hu
  refine ⟨cs, k1.of_flat h2, ?_⟩
  rw [← hold xs (by rw [hn] at hx ⊢; exact hx)]
  exact k2
 have hW' := hW.write (w' := w') hob hb rfl hg.os hg.tape hg.output hg.size (fun b hlt hnb => hg.block b hlt fun e => hnb (hblk b ((hbo b).1 e.symm))) (o' := .nst s) rfl (by
  rw [set_same hob]
  refine ⟨y, vs, rfl, hlen, hz, hoff.move fun b hby => hne 0 y b rfl (by omega) hby (off_lt hoff hby), hin.same hj hq hel fun k v hk hv b hbv => hne (k + 1) v b (by simpa using hv) (by omega) hbv ?_, hfr, hd⟩
  obtain ⟨q', _, _, xs', hown', _⟩ := hin k v hv
  exact own_lt hown' ((own_blk1 hown' b).2 hbv))
 rw [set_same hob] at hW'
 refine ⟨hW', fun fl b hok hlt => ⟨hok, hg.block b hlt fun e => hok.1 ⟨i, _, _, hob, rfl, hb, hblk b ((hbo b).1 e.symm)⟩⟩, fun b hlt ht => hg.block b hlt fun e => ht ⟨i, _, _, hob, rfl, hb, hblk b ((hbo b).1 e.symm)⟩⟩

theorem inn_rep {ok : Bool -> Nat -> Prop} {i j : Nat} {v : Value} (h : RepV w ok β (.inn i j) v) : ∃ y vs, β[i]? = some (.tuple (y :: vs).toArray) ∧ vs[j]? = some v := by
 cases h with
 |inn _ _ _ y vs hb hj => exact ⟨y, vs, hb, hj⟩

theorem grn_rep {ok : Bool -> Nat -> Prop} {i : Nat} {v : Value} (h : RepV w ok β (.grn i) v) : ∃ A n c, v = .slice A n c ∧ (β[i]? = some v ∨ β[i]? = some (.agg #[v])) := by
 cases h with
 |grn _ A n c h => exact ⟨A, n, c, rfl, h⟩

theorem ownsM_sl {e : TypeId} {sz n : Nat} {v : Value} {xs : List Value} (h : ownsM w e sz v n xs) : ∃ A c, v = .slice A n c := by
 rcases h.2 with ⟨rfl, rfl⟩ | ⟨g, cap, cur, rfl, _⟩
 ·exact ⟨_, _, rfl⟩
 ·exact ⟨_, _, rfl⟩

theorem ownsM_one {e : TypeId} {sz n : Nat} {v : Value} {xs ys : List Value} (h : ownsM w e sz v n xs) (k : ownsM w e sz v n ys) : xs = ys := by
 rcases h.2 with ⟨e1, h0⟩ | ⟨g1, c1, cur1, e1, _, hg1, _, _, hcur1, ht1⟩ <;> rcases k.2 with ⟨e2, h0'⟩ | ⟨g2, c2, cur2, e2, _, hg2, _, _, hcur2, ht2⟩
 ·rw [List.eq_nil_of_length_eq_zero (by rw [h.1, h0]; simp : xs.length = 0), List.eq_nil_of_length_eq_zero (by rw [k.1, h0]; simp : ys.length = 0)]
 ·rw [e1] at e2; cases e2
 ·rw [e1] at e2; cases e2
 ·rw [e1] at e2
  obtain ⟨eA, _, _⟩ := Value.slice.inj e2
  have : g1 = g2 := by simpa using eA
  subst this
  obtain ⟨f1, hg1, _⟩ := hg1
  obtain ⟨f2, hg2, _⟩ := hg2
  rw [hg1] at hg2
  simp only [Option.some.injEq, Obj.cells.injEq] at hg2
  rw [← ht1, ← ht2, hg2.1]

theorem blk_agg {v : Value} {b : Nat} : ¬ blk (.agg #[v]) b := by
 intro h
 simp [blk, blk1] at h

theorem appendG_ok {t t' ty : TypeId} {i : RowI} {x y : AV} {v vy : Value} (g : Good cx β σ a w) (hri : rowI P t = some i) (hxr : RepV w (okB cx β σ.ob) β x v) (hyr : RepV w (okB cx β σ.ob) β y vy)
  (h : appendG i (t' == t) (isStrT P t' && isByteT P i.e) x σ y K = some r) :
  ∃ v1 w1 x' σ' β', (Builtin.append_ #[t, t'] ty #[v, vy]).run P w = .ok v1 w1 ∧ K x' σ' = some r ∧ Res cx β' σ' x' a v1 w1 ∧ Eff 1 β σ.ob w w1 ∧ Ext 1 β σ.ob w β' σ'.ob := by
 obtain ⟨ie, z, hut, hie, hsz, hby, hz, hzo, hb16, hbpos⟩ := tyOf_row hri
 have hzl : z.cells.size = i.t.sz := by simpa using (zero_cel (w := w) (ok := okB cx β σ.ob true) i.t z.cells.toList hzo).len
 have hlenob := g.W.len
 unfold appendG at h
 split at h
 ·rename_i s2 hadd
  split at h
  ·rename_i ai j
   split at h
   ·rename_i q hq
    split at h
    ·rename_i hc
     obtain ⟨hqe, hqt, hst, hfl⟩ := hc
     have hqz : q.t.sz = i.t.sz := by rw [hqt]
     rcases br_some h with ⟨h1, h2⟩ | ⟨_, h2⟩
     ·obtain ⟨hmax, hlim⟩ := lim_max hbpos (of_decide_eq_true h1)
      have h2 : K (.grn σ.ob.length) (σ.new (.grn ai j i.e i.t.sz (q.xs.length + s2.xs.length))) = some r := h2
      obtain ⟨s, hob, hqi⟩ := innAt_some hq
      obtain ⟨y0, vs, hb, hj⟩ := inn_rep hxr
      obtain ⟨⟨cells, hown, hce⟩, _⟩ := inn_own g.W hob hqi hxr
      obtain ⟨news, hs, _⟩ := addend_src g.W hri hadd hyr hst
      have hown' := hown
      rw [hqe, hqz] at hown'
      rw [← hsz] at hs hown' hzl
      obtain ⟨v1, w1, r1, r2, r3, r4⟩ := run_append_M (ty := ty) hut hie hz hzl (by rw [hsz]; exact i.t.sz_pos) hs hown' hmax (by rw [hby]; exact hlim)
      rcases r4 with ⟨A, c, e1, e2, hle⟩ | ⟨hnew, hgn⟩
      ·subst e1 e2
       obtain ⟨k1, k2, k3⟩ := nest_beyond g.W hob hb hj hqi (Nat.le_add_right _ s2.xs.length) r3 (by rw [hqe, hqz, ← hsz]; exact r2) (fun xs hxs => by
        rw [hqz, ← hsz]
        have : xs = cells := ownsM_one hxs hown
        rw [this, ← hown'.1]
        exact List.take_left.symm)
       have hN := k1.new (Same.refl w1) (o := .grn ai j i.e i.t.sz (q.xs.length + s2.xs.length)) (x := .agg #[.slice A (q.xs.length + s2.xs.length) c]) (fun _ b hb => absurd hb blk_agg)
        (.inr ⟨A, c, q.xs.length, y0, vs, rfl, get_snoc hb, hj, Nat.le_add_right _ _, hle⟩)
       refine ⟨_, w1, _, _, β ++ [.agg #[.slice A (q.xs.length + s2.xs.length) c]], r1, h2, ⟨hN, ?_, .grn _ _ _ _ (.inr ?_)⟩, ⟨r3.size, k3⟩, (Ext.snoc hlenob (fun _ b hb => absurd hb blk_agg) _)⟩
       ·refine (g.A.mono k2 fun _ _ h => h).mono (fun fl b hok hlt => ⟨ok_snoc hlenob (fun _ b hb => absurd hb blk_agg) hok hlt, rfl⟩) fun _ _ h => get_snoc h
       ·rw [← hlenob]
        simp
      ·have hblk1 : ∀ b, blk v1 b -> b = w.heap.size := fun b hb => by
        have := (own_blk r2 b).2 hb
        rw [hnew] at this
        exact (Option.some.inj this).symm
       obtain ⟨m1, m2, m3⟩ := g.W.merge (w' := w1) (is := []) (o := .grn ai j i.e i.t.sz (q.xs.length + s2.xs.length)) (x := v1) rfl (fun b hb hx => by
        have := hblk1 b hx
        omega) hgn.os hgn.tape hgn.output hgn.size (fun b hb _ => hgn.block b hb (by simp)) (fun hm => .inl ⟨_, by rw [← hsz]; exact r2⟩)
       obtain ⟨A1, c1, rfl⟩ := ownsM_sl r2
       refine ⟨_, w1, _, _, β ++ [_], r1, h2, ⟨m1, g.A.mono m2 fun _ _ h => get_snoc h, .grn _ _ _ _ (.inl ?_)⟩, ⟨hgn.size, fun b hb _ => hgn.block b hb (by simp)⟩, m3.mono (Nat.zero_le _)⟩
       show (β ++ [_])[σ.ob.length]? = some _
       rw [← hlenob]
       simp
     ·cases h2
    ·cases h
   ·cases h
  ·rename_i bi
   split at h
   ·rename_i ai j e0 z0 m hobb
    split at h
    ·rename_i q hq
     split at h
     ·rename_i hc
      obtain ⟨hqe, hqt, he0, hz0, hst, hfl⟩ := hc
      have hqz : q.t.sz = i.t.sz := by rw [hqt]
      subst he0 hz0
      rcases br_some h with ⟨h1, h2⟩ | ⟨_, h2⟩
      ·obtain ⟨hmax, hlim⟩ := lim_max hbpos (of_decide_eq_true h1)
       have h2 : K (.grn σ.ob.length) ⟨σ.fr, σ.ob.set bi .gone ++ [.grn ai j i.e i.t.sz (m + s2.xs.length)]⟩ = some r := h2
       obtain ⟨s, hob, hqi⟩ := innAt_some hq
       obtain ⟨news, hs, _⟩ := addend_src g.W hri hadd hyr hst
       have hab : ai ≠ bi := fun e => by
        subst e
        rw [hob] at hobb
        cases hobb
       -- what is in a new block
       have fresh : ∀ {v1 : Value} {w1 : World} {xs : List Value}, (Builtin.append_ #[t, t'] ty #[v, vy]).run P w = .ok v1 w1 -> ownsM w1 i.e i.t.sz v1 (m + s2.xs.length) xs -> v1.ownBlock = some w.heap.size -> w.grownBy w1 none →
         ∃ v1 w1 x' σ' β', (Builtin.append_ #[t, t'] ty #[v, vy]).run P w = .ok v1 w1 ∧ K x' σ' = some r ∧ Res cx β' σ' x' a v1 w1 ∧ Eff 1 β σ.ob w w1 ∧ Ext 1 β σ.ob w β' σ'.ob := by
        intro v1 w1 xs r1 r2 hnew hgn
        obtain ⟨m1, m2, m3⟩ := g.W.merge (w' := w1) (is := [bi]) (o := .grn ai j i.e i.t.sz (m + s2.xs.length)) (x := v1) rfl (fun b hb hx => by
          have := (own_blk r2 b).2 hx
          rw [hnew] at this
          have := Option.some.inj this
          omega) hgn.os hgn.tape hgn.output hgn.size (fun b hb _ => hgn.block b hb (by simp)) (fun hm => .inl ⟨_, r2⟩)
        obtain ⟨A1, c1, rfl⟩ := ownsM_sl r2
        refine ⟨_, w1, _, _, β ++ [_], r1, h2, ⟨m1, g.A.mono m2 fun _ _ h => get_snoc h, .grn _ _ _ _ (.inl ?_)⟩, ⟨hgn.size, fun b hb _ => hgn.block b hb (by simp)⟩, m3.mono (Nat.zero_le _)⟩
        show (β ++ [_])[σ.ob.length]? = some _
        rw [← hlenob]
        simp
       obtain ⟨A0, n0, c0, rfl, hbv⟩ := grn_rep hxr
       rcases hbv with hbv | hbv
       ·-- told by itself
        rcases g.W.obj bi _ _ hobb hbv with ⟨cells, hown⟩ | ⟨A, c, n, y0, vs, e, _⟩
        ·have hown' := hown
         rw [← hsz] at hs hown' hzl
         obtain ⟨v1, w1, r1, r2, r3, r4⟩ := run_append_M (ty := ty) hut hie hz hzl (by rw [hsz]; exact i.t.sz_pos) hs hown' hmax (by rw [hby]; exact hlim)
         rcases r4 with ⟨A, c, e1, e2, _⟩ | ⟨hnew, hgn⟩
         ·obtain ⟨rfl, rfl, rfl⟩ := Value.slice.inj e1
          subst e2
          obtain ⟨m1, m2, m3⟩ := g.W.merge (w' := w1) (is := [bi]) (o := .grn ai j i.e i.t.sz (n0 + s2.xs.length)) (x := .slice A0 (n0 + s2.xs.length) c0) rfl (fun b hb hx =>
            ⟨bi, by simp, _, _, hobb, rfl, hbv, by cases A0 <;> exact hx⟩) r3.os r3.tape r3.output r3.size (fun b hb h => r3.block b hb fun e => h bi (by simp) _ _ hobb rfl hbv ((own_blk hown b).1 e.symm)) (fun hm => .inl ⟨_, by rw [← hsz]; exact r2⟩)
          refine ⟨_, w1, _, _, β ++ [_], r1, h2, ⟨m1, g.A.mono m2 fun _ _ h => get_snoc h, .grn _ _ _ _ (.inl ?_)⟩, ⟨r3.size, fun b hb ht => r3.block b hb fun e => ht ⟨bi, _, _, hobb, rfl, hbv, (own_blk hown b).1 e.symm⟩⟩, m3.mono (Nat.zero_le _)⟩
          show (β ++ [_])[σ.ob.length]? = some _
          rw [← hlenob]
          simp
         ·exact fresh r1 (by rw [← hsz]; exact r2) hnew hgn
        ·cases e
       ·rcases g.W.obj bi _ _ hobb hbv with ⟨cells, hown⟩ | ⟨A, c, n, y0, vs, e, hb, hj, hnm, hmc⟩
        ·obtain ⟨_, _, e⟩ := ownsM_sl hown
         cases e
        ·have e : A0 = A ∧ n0 = m ∧ c0 = c := by simpa using e
         obtain ⟨rfl, rfl, rfl⟩ := e
         obtain ⟨⟨cells, hown, hce⟩, hqf⟩ := inn_own g.W hob hqi (RepV.inn (w := w) (ok := okB cx β σ.ob) ai j _ y0 vs hb hj)
         have hn : n = q.xs.length := by
          rcases hown.2 with ⟨e, h0⟩ | ⟨_, _, _, e, _⟩
          ·rw [(Value.slice.inj e).2.1, h0]
          ·exact (Value.slice.inj e).2.1
         rw [← hn] at hown
         obtain ⟨ys, hys, hyt⟩ := hown.longer hnm hmc
         have hown' := hys
         rw [hqe, hqz] at hown'
         rw [← hsz] at hs hown' hzl
         obtain ⟨v1, w1, r1, r2, r3, r4⟩ := run_append_M (ty := ty) hut hie hz hzl (by rw [hsz]; exact i.t.sz_pos) hs hown' hmax (by rw [hby]; exact hlim)
         rcases r4 with ⟨A', c', e1, e2, hle⟩ | ⟨hnew, hgn⟩
         ·obtain ⟨rfl, _, rfl⟩ := Value.slice.inj e1
          subst e2
          have hgb : w.grownBy w1 (Value.slice A0 n c0).ownBlock := by
           have : (Value.slice A0 n c0).ownBlock = (Value.slice A0 n0 c0).ownBlock := by cases A0 <;> rfl
           rw [this]
           exact r3
          obtain ⟨k1, k2, k3⟩ := nest_beyond g.W hob hb hj hqi (Nat.le_trans hnm (Nat.le_add_right n0 s2.xs.length)) hgb (by rw [hqe, hqz, ← hsz]; exact r2) (fun xs hxs => by
           have hx2 : xs = cells := ownsM_one hxs hown
           have hyl : ys.length = n0 * q.t.sz := hys.1
           have hmul : n * q.t.sz ≤ n0 * q.t.sz := Nat.mul_le_mul_right _ hnm
           rw [hx2, hyt, List.take_append_of_le_length (by rw [hyl]; exact hmul)])
          have k4 := k1.gone bi
          have hN := k4.new (Same.refl w1) (o := .grn ai j i.e i.t.sz (n0 + s2.xs.length)) (x := .agg #[.slice A0 (n0 + s2.xs.length) c0]) (fun _ b hb => absurd hb blk_agg)
           (.inr ⟨A0, c0, n, y0, vs, rfl, get_snoc hb, hj, by omega, hle⟩)
          have hl2 : β.length = (σ.ob.set bi .gone).length := by simp [hlenob]
          have hlv : ∀ b, LiveB β (σ.ob.set bi .gone) b -> LiveB β σ.ob b := fun b => live_dead rfl
          refine ⟨_, w1, _, _, β ++ [.agg #[.slice A0 (n0 + s2.xs.length) c0]], r1, h2, ⟨hN, ?_, .grn _ _ _ _ (.inr ?_)⟩, ⟨r3.size, k3⟩, ⟨fun _ _ h => get_snoc h, fun l hl b hb' ht => ?_⟩⟩
          ·refine (g.A.mono k2 fun _ _ h => h).mono (fun fl b hok hlt => ⟨ok_snoc hl2 (fun _ b hb => absurd hb blk_agg) (okB_of hok (hlv b)) hlt, rfl⟩) fun _ _ h => get_snoc h
          ·show (β ++ [Value.agg #[Value.slice A0 (n0 + s2.xs.length) c0]])[σ.ob.length]? = _
           rw [← hlenob]
           simp
          ·have ht2 := (Ext.snoc (w := w) (o := .grn ai j i.e i.t.sz (n0 + s2.xs.length)) hl2 (fun _ b hb => absurd hb (blk_agg (v := .slice A0 (n0 + s2.xs.length) c0))) 0).sub l (Nat.zero_le _) b hb' ht
           match l, ht2 with
           |0, ht2 => exact ht2
           |1, ⟨k, o1, x1, p1, p2, p3, p4⟩ =>
            rcases mem_set p1 with ⟨_, p1⟩ | ⟨_, rfl, _⟩
            ·exact ⟨k, o1, x1, p1, p2, p3, p4⟩
            ·cases p2
           |l + 2, ht2 => exact hlv b ht2
         ·exact fresh r1 (by rw [← hsz]; exact r2) hnew hgn
      ·cases h2
     ·cases h
    ·cases h
   ·cases h
  ·cases h
 ·cases h

theorem Inner.append {fl1 fl2 fl : Bool} {e1 e2 e : TypeId} {t : Ty} {xs ys : List t.S} {vs us : List Value} (h : Inner w ⟨fl1, e1, t, xs⟩ vs) (k : Inner w ⟨fl2, e2, t, ys⟩ us) (hl : vs.length = xs.length) : Inner w ⟨fl, e, t, xs ++ ys⟩ (vs ++ us) := by
 intro j u hj
 rw [List.getElem?_append] at hj
 cases t with
 |sl e' t' =>
  split at hj
  ·rename_i hlt
   obtain ⟨q, h1, h2, h3⟩ := h j u hj
   simp only [Sq.inn, Option.some.injEq] at h1
   subst h1
   refine ⟨_, rfl, h2, ?_⟩
   have e : (xs ++ ys).getD j [] = xs.getD j [] := by
    rw [List.getD_eq_getElem?_getD, List.getD_eq_getElem?_getD, List.getElem?_append_left (by rw [← hl]; exact hlt)]
   simp only [e]
   exact h3
  ·rename_i hge
   obtain ⟨q, h1, h2, h3⟩ := k _ u hj
   simp only [Sq.inn, Option.some.injEq] at h1
   subst h1
   refine ⟨_, rfl, h2, ?_⟩
   have e : (xs ++ ys).getD j [] = ys.getD (j - vs.length) [] := by
    rw [List.getD_eq_getElem?_getD, List.getD_eq_getElem?_getD, List.getElem?_append_right (by rw [← hl]; omega), hl]
   simp only [e]
   exact h3
 |_ =>
  split at hj
  ·obtain ⟨q, h1, _⟩ := h j u hj
   cases h1
  ·obtain ⟨q, h1, _⟩ := k _ u hj
   cases h1

theorem appendN_ok {t t' ty : TypeId} {i : RowI} {y : AV} {v vy : Value} {p : AV × St} (hW : WRep cx β p.2.ob w) (hA : ARep w (okB cx β p.2.ob) β p.2.fr a) (hri : rowI P t = some i) (hxr : RepV w (okB cx β p.2.ob) β p.1 v) (hyr : RepV w (okB cx β p.2.ob) β y vy)
  (h : appendN i (t' == t) p y K = some r) :
  ∃ v1 w1 x' σ' β', (Builtin.append_ #[t, t'] ty #[v, vy]).run P w = .ok v1 w1 ∧ K x' σ' = some r ∧ Res cx β' σ' x' a v1 w1 ∧ (w.heap.size ≤ w1.heap.size ∧ ∀ b, b < w.heap.size -> v.ownBlock ≠ some b -> w1.heap[b]? = w.heap[b]?) ∧ Ext 0 β p.2.ob w β' σ'.ob := by
 obtain ⟨ie, z, hut, hie, hsz, hby, hz, hzo, hb16, hbpos⟩ := tyOf_row hri
 have hzl : z.cells.size = i.t.sz := by simpa using (zero_cel (w := w) (ok := okB cx β p.2.ob true) i.t z.cells.toList hzo).len
 unfold appendN at h
 split at h
 ·rename_i ai bi hp1
  split at h
  ·rename_i s s' hoa hob
   split at h
   ·rename_i hc
    obtain ⟨htt, hab, hse, hst, hst', hz1⟩ := hc
    split at h
    ·rename_i ys hys
     rcases br_some h with ⟨h1, h2⟩ | ⟨_, h2⟩
     ·obtain ⟨hmax, hlim⟩ := lim_max hbpos (of_decide_eq_true h1)
      obtain rfl : t' = t := by simpa using htt
      rw [hp1] at hxr
      obtain ⟨ht, rfl⟩ := as_eq hys
      obtain ⟨fl, e0, tt, xs⟩ := s
      obtain ⟨fl', e0', tt', ys⟩ := s'
      simp only at ht hse hst hst' hmax hlim h2
      subst ht hse
      simp only at hmax hlim h2
      cases hxr with
      |nst _ _ vs hba => cases hyr with
       |nst _ _ us hbb =>
        obtain ⟨y1, vs1, e1, hl1, _, ho1, hi1, hf1, hd1⟩ := hW.obj ai _ _ hoa hba
        have e1 := List.cons.inj (by simpa using e1 : v :: vs = y1 :: vs1)
        obtain ⟨rfl, rfl⟩ := e1
        obtain ⟨y2, vs2, e2, hl2, _, ho2, hi2, hf2, hd2⟩ := hW.obj bi _ _ hob hbb
        have e2 := List.cons.inj (by simpa using e2 : vy :: us = y2 :: vs2)
        obtain ⟨rfl, rfl⟩ := e2
        simp only at hl1 hl2
        have hd1 : Dist (v :: vs) := hd1
        have hd2 : Dist (vy :: us) := hd2
        have hone : ∀ u ∈ us, u.oneCell' = true := fun u hu => by
         obtain ⟨j, hj⟩ := List.getElem?_of_mem hu
         obtain ⟨q, _, _, cells, hown, _⟩ := hi2 j u hj
         obtain ⟨A, c, rfl⟩ := ownsM_sl hown
         rfl
        have hsrc : Src P t' w ie.size vy us.length us := by
         have h1 : ie.size = 1 := by rw [hsz, hz1]
         rw [h1]
         rcases ho2 with ⟨rfl, hnil⟩ | ⟨g, off, cap, cur, rfl, hg, _, _, _, hce⟩
         ·rw [hnil]
          exact Src.slice hut (fun _ => rfl) rfl (fun a h => by cases h) (fun u hu => by simp at hu)
         ·refine Src.slice hut (fun h => by cases h) (Nat.mul_one _).symm (fun ad h j u hu => ?_) hone
          obtain rfl := Option.some.inj h
          rw [add_lit, hg.cell]
          exact hce j u hu
        obtain ⟨v1, w1, r1, r2, r3, r4⟩ := run_append_off (ty := ty) hut hie hz (by rw [hzl, hz1]) (by rw [hsz, hz1]) hsrc ho1 (by rw [hl1, hl2]; exact hmax) (by rw [hl1, hl2, hby]; exact hlim)
        have hvo : ∀ b, v.ownBlock = some b ↔ blk1 v = some b := fun b => by
         rcases ho1 with ⟨rfl, _⟩ | ⟨g, off, cap, cur, rfl, _⟩ <;> rfl
        have hv1o : ∀ b, v1.ownBlock = some b ↔ blk1 v1 = some b := fun b => by
         rcases r2 with ⟨rfl, _⟩ | ⟨g, off, cap, cur, rfl, _⟩ <;> rfl
        have hv1 : ∀ b, blk1 v1 = some b -> blk1 v = some b ∨ b = w.heap.size := fun b hb => by
         have hb := (hv1o b).2 hb
         rcases r4 with h | h
         ·exact .inl ((hvo b).1 (by rw [← h]; exact hb))
         ·rw [h] at hb
          exact .inr (Option.some.inj hb).symm
        have hba' : ∀ u ∈ v :: vs, ∀ b, blk1 u = some b -> blk (.tuple (v :: vs).toArray) b := fun u hu b hb => blk_tuple.2 ⟨u, hu, hb⟩
        have hbb' : ∀ u ∈ vy :: us, ∀ b, blk1 u = some b -> blk (.tuple (vy :: us).toArray) b := fun u hu b hb => blk_tuple.2 ⟨u, hu, hb⟩
        have cross : ∀ u ∈ v :: vs, ∀ z ∈ vy :: us, ∀ b, blk1 u = some b -> blk1 z = some b -> False := fun u hu z hz b hbu hbz =>
         hab (hW.sep ai bi _ _ _ _ b hoa hob rfl rfl hba hbb (hba' u hu b hbu) (hbb' z hz b hbz))
        have hlt1 : ∀ u ∈ v :: vs, ∀ b, blk1 u = some b -> b < w.heap.size := fun u hu b hb => (hW.obj ai _ _ hoa hba).lt rfl (hba' u hu b hb)
        have hlt2 : ∀ u ∈ vy :: us, ∀ b, blk1 u = some b -> b < w.heap.size := fun u hu b hb => (hW.obj bi _ _ hob hbb).lt rfl (hbb' u hu b hb)
        obtain ⟨m1, m2, m3⟩ := hW.merge (w' := w1) (is := [ai, bi]) (o := .nst ⟨fl && fl', i.e, tt', xs ++ ys⟩) (x := .tuple (v1 :: (vs ++ us)).toArray) rfl (fun b hb hx => by
          obtain ⟨u, hu, hbu⟩ := blk_tuple.1 hx
          rcases List.mem_cons.1 hu with rfl | hu
          ·rcases hv1 b hbu with h | h
           ·exact ⟨ai, by simp, _, _, hoa, rfl, hba, hba' v List.mem_cons_self b h⟩
           ·omega
          ·rcases List.mem_append.1 hu with hu | hu
           ·exact ⟨ai, by simp, _, _, hoa, rfl, hba, hba' u (List.mem_cons_of_mem _ hu) b hbu⟩
           ·exact ⟨bi, by simp, _, _, hob, rfl, hbb, hbb' u (List.mem_cons_of_mem _ hu) b hbu⟩) r3.os r3.tape r3.output r3.size
         (fun b hb h => r3.block b hb fun e => h ai (by simp) _ _ hoa rfl hba (hba' v List.mem_cons_self b ((hvo b).1 e.symm))) (fun hm => by
          refine ⟨v1, vs ++ us, rfl, by simp [hl1, hl2], (congrArg Ty.sz hst).trans hz1, r2, Inner.append (fl1 := fl) (e1 := i.e) (fl2 := fl') (e2 := e0') (hi1.move fun u hu b hb => ?_) (hi2.move fun u hu b hb => ?_) hl1, fun hfl b hb => ?_, ?_⟩
          ·exact r3.block b (hlt1 u (List.mem_cons_of_mem _ hu) b hb) fun e => hd1.head u hu b hb ((hvo b).1 e.symm)
          ·exact r3.block b (hlt2 u (List.mem_cons_of_mem _ hu) b hb) fun e => cross v List.mem_cons_self u (List.mem_cons_of_mem _ hu) b ((hvo b).1 e.symm) hb
          ·have hfl := Bool.and_eq_true_iff.1 hfl
           obtain ⟨u, hu, hbu⟩ := blk_tuple.1 hb
           rcases List.mem_cons.1 hu with rfl | hu
           ·rcases hv1 b hbu with h | h
            ·exact hf1 hfl.1 b (hba' v List.mem_cons_self b h)
            ·rw [h]; exact hW.hs
           ·rcases List.mem_append.1 hu with hu | hu
            ·exact hf1 hfl.1 b (hba' u (List.mem_cons_of_mem _ hu) b hbu)
            ·exact hf2 hfl.2 b (hbb' u (List.mem_cons_of_mem _ hu) b hbu)
          ·refine Dist.cons (hd1.tail.append hd2.tail fun u hu z hz b => cross u (List.mem_cons_of_mem _ hu) z (List.mem_cons_of_mem _ hz) b) fun u hu b hbu hb1 => ?_
           rcases hv1 b hb1 with h | h
           ·rcases List.mem_append.1 hu with hu | hu
            ·exact hd1.head u hu b hbu h
            ·exact cross v List.mem_cons_self u (List.mem_cons_of_mem _ hu) b h hbu
           ·rcases List.mem_append.1 hu with hu | hu
            ·have := hlt1 u (List.mem_cons_of_mem _ hu) b hbu
             omega
            ·have := hlt2 u (List.mem_cons_of_mem _ hu) b hbu
             omega)
        refine ⟨v1, w1, _, _, _, r1, h2, ⟨m1, hA.mono m2 fun _ _ h => get_snoc h, .nst _ _ (vs ++ us) ?_⟩, ⟨r3.size, fun b hb hne => r3.block b hb (Ne.symm hne)⟩, m3⟩
        show (β ++ [_])[p.2.ob.length]? = some _
        rw [← hW.len]
        simp
     ·cases h2
    ·cases h
   ·cases h
  ·cases h
 ·cases h

theorem chunk_left {α : Type} {l m : List α} {j z : Nat} (h : (j + 1) * z ≤ l.length) : ((l ++ m).drop (j * z)).take z = (l.drop (j * z)).take z := by
 rw [Nat.succ_mul] at h
 apply List.ext_getElem?
 intro k
 rw [List.getElem?_take, List.getElem?_take, List.getElem?_drop, List.getElem?_drop]
 by_cases hk : k < z
 ·rw [if_pos hk, if_pos hk, List.getElem?_append_left (by omega)]
 ·rw [if_neg hk, if_neg hk]

theorem chunk_right {α : Type} {l m : List α} {j n z : Nat} (h : l.length = n * z) (hj : n ≤ j) : ((l ++ m).drop (j * z)).take z = (m.drop ((j - n) * z)).take z := by
 have h1 : n * z ≤ j * z := Nat.mul_le_mul_right _ hj
 apply List.ext_getElem?
 intro k
 rw [List.getElem?_take, List.getElem?_take, List.getElem?_drop, List.getElem?_drop]
 by_cases hk : k < z
 ·rw [if_pos hk, if_pos hk, List.getElem?_append_right (by omega), h, Nat.sub_mul]
  congr 1
  omega
 ·rw [if_neg hk, if_neg hk]

theorem CelO.one : ∀ {t : Ty} {x : t.S} {cs us : List Value}, CelO w t x cs us -> ∀ u ∈ cs, u.oneCell' = true
 |.int _, _, _, _, h => by rw [h.1]; intro u hu; rw [List.mem_singleton.1 hu]; rfl
 |.bool, _, _, _, h => by rw [h.1]; intro u hu; rw [List.mem_singleton.1 hu]; rfl
 |.str, _, _, _, h => by rw [h.1]; intro u hu; rw [List.mem_singleton.1 hu]; rfl
 |.sl _ _, _, _, _, ⟨_, v, h, _, h1⟩ => by
  rw [h]
  intro u hu
  rw [List.mem_singleton.1 hu]
  obtain ⟨A, c, rfl⟩ := own_sl h1
  rfl
 |.pr _ _, _, _, _, ⟨c1, c2, u1, u2, h, _, h1, h2⟩ => by
  rw [h]
  intro u hu
  exact (List.mem_append.1 hu).elim (h1.one u) (h2.one u)

theorem appendF_ok {t t' ty : TypeId} {i : RowI} {y : AV} {v vy : Value} {p : AV × St} (hW : WRep cx β p.2.ob w) (hA : ARep w (okB cx β p.2.ob) β p.2.fr a) (hri : rowI P t = some i) (hxr : RepV w (okB cx β p.2.ob) β p.1 v) (hyr : RepV w (okB cx β p.2.ob) β y vy)
  (h : appendF i (t' == t) p y K = some r) :
  ∃ v1 w1 x' σ' β', (Builtin.append_ #[t, t'] ty #[v, vy]).run P w = .ok v1 w1 ∧ K x' σ' = some r ∧ Res cx β' σ' x' a v1 w1 ∧ (w.heap.size ≤ w1.heap.size ∧ ∀ b, b < w.heap.size -> v.ownBlock ≠ some b -> w1.heap[b]? = w.heap[b]?) ∧ Ext 0 β p.2.ob w β' σ'.ob := by
 obtain ⟨ie, z, hut, hie, hsz, hby, hz, hzo, hb16, hbpos⟩ := tyOf_row hri
 have hzl : z.cells.size = i.t.sz := by simpa using (zero_cel (w := w) (ok := okB cx β p.2.ob true) i.t z.cells.toList hzo).len
 unfold appendF at h
 split at h
 ·rename_i ai bi hp1
  split at h
  ·rename_i s s' hoa hob
   split at h
   ·rename_i hc
    obtain ⟨htt, hab, hse, hst, hst'⟩ := hc
    split at h
    ·rename_i ys hys
     rcases br_some h with ⟨h1, h2⟩ | ⟨_, h2⟩
     ·obtain ⟨hmax, hlim⟩ := lim_max hbpos (of_decide_eq_true h1)
      obtain rfl : t' = t := by simpa using htt
      rw [hp1] at hxr
      obtain ⟨ht, rfl⟩ := as_eq hys
      obtain ⟨fl, e0, tt, xs⟩ := s
      obtain ⟨fl', e0', tt', ys⟩ := s'
      simp only at ht hse hst hst' hmax hlim h2
      subst ht hse
      simp only at hmax hlim h2
      cases hxr with
      |nst _ _ vs hba => cases hyr with
       |nst _ _ us hbb =>
        obtain ⟨y1, vs1, cells, e1, ho1, hl1, hi1, hc1, hf1, hd1⟩ := hW.obj ai _ _ hoa hba
        have e1 := List.cons.inj (by simpa using e1 : v :: vs = y1 :: vs1)
        obtain ⟨rfl, rfl⟩ := e1
        obtain ⟨y2, vs2, cells', e2, ho2, hl2, hi2, hc2, hf2, hd2⟩ := hW.obj bi _ _ hob hbb
        have e2 := List.cons.inj (by simpa using e2 : vy :: us = y2 :: vs2)
        obtain ⟨rfl, rfl⟩ := e2
        simp only at hl1 hl2 ho1 ho2 hc1 hc2
        have hone : ∀ u ∈ cells', u.oneCell' = true := fun u hu => by
         obtain ⟨k, hk⟩ := List.getElem?_of_mem hu
         have hlt := get_lt hk
         rw [ho2.1] at hlt
         have hzp := tt'.sz_pos
         have hj : k / tt'.sz < ys.length := (Nat.div_lt_iff_lt_mul hzp).2 hlt
         refine (hc2 (k / tt'.sz) ys[k / tt'.sz] (List.getElem?_eq_getElem hj) (Nat.zero_le _)).one u (List.mem_of_getElem? (i := k % tt'.sz) ?_)
         rw [List.getElem?_take, if_pos (Nat.mod_lt _ hzp), List.getElem?_drop, Nat.mul_comm, Nat.div_add_mod]
         exact hk
        have hst0 : tt'.sz = i.t.sz := congrArg Ty.sz hst
        have hsrc : Src P t' w ie.size vy ys.length cells' := by
         rw [hsz, ← hst0]
         rcases ho2.2 with ⟨rfl, hn⟩ | ⟨g, cap, cur, rfl, _⟩
         ·rw [hn]
          exact Src.slice hut (fun _ => rfl) (by rw [ho2.1, hn]) (fun a h => by cases h) hone
         ·refine Src.slice hut (fun h => by cases h) ho2.1 (fun ad h j u hu => ?_) hone
          obtain rfl := Option.some.inj h
          exact ho2.cells rfl j u hu
        have ho1' := ho1
        rw [hst0, ← hsz] at ho1'
        obtain ⟨v1, w1, r1, r2, r3, r4⟩ := run_append_M (ty := ty) hut hie hz (by rw [hzl, hsz]) (by rw [hsz]; exact i.t.sz_pos) hsrc ho1' hmax (by rw [hby]; exact hlim)
        rw [hsz, ← hst0] at r2
        have hvo : ∀ b, v.ownBlock = some b ↔ blk1 v = some b := fun b => (own_blk ho1 b).trans (own_blk1 ho1 b)
        have hv1o : ∀ b, v1.ownBlock = some b ↔ blk1 v1 = some b := fun b => (own_blk r2 b).trans (own_blk1 r2 b)
        have hv1 : ∀ b, blk1 v1 = some b -> blk1 v = some b ∨ b = w.heap.size := fun b hb => by
         have hb := (hv1o b).2 hb
         rcases r4 with ⟨A, c, ea, eb, _⟩ | ⟨h, _⟩
         ·refine .inl ((hvo b).1 ?_)
          rw [ea]
          rw [eb] at hb
          cases A <;> exact hb
         ·rw [h] at hb
          exact .inr (Option.some.inj hb).symm
        have hba' : ∀ u ∈ v :: vs, ∀ b, blk1 u = some b -> blk (.tuple (v :: vs).toArray) b := fun u hu b hb => blk_tuple.2 ⟨u, hu, hb⟩
        have hbb' : ∀ u ∈ vy :: us, ∀ b, blk1 u = some b -> blk (.tuple (vy :: us).toArray) b := fun u hu b hb => blk_tuple.2 ⟨u, hu, hb⟩
        have cross : ∀ u ∈ v :: vs, ∀ z ∈ vy :: us, ∀ b, blk1 u = some b -> blk1 z = some b -> False := fun u hu z hz b hbu hbz =>
         hab (hW.sep ai bi _ _ _ _ b hoa hob rfl rfl hba hbb (hba' u hu b hbu) (hbb' z hz b hbz))
        have hlt1 : ∀ u ∈ v :: vs, ∀ b, blk1 u = some b -> b < w.heap.size := fun u hu b hb => (hW.obj ai _ _ hoa hba).lt rfl (hba' u hu b hb)
        have hlt2 : ∀ u ∈ vy :: us, ∀ b, blk1 u = some b -> b < w.heap.size := fun u hu b hb => (hW.obj bi _ _ hob hbb).lt rfl (hbb' u hu b hb)
        have mv1 : ∀ u ∈ vs, ∀ b, blk1 u = some b -> w1.heap[b]? = w.heap[b]? := fun u hu b hb =>
         r3.block b (hlt1 u (List.mem_cons_of_mem _ hu) b hb) fun e => hd1.head u hu b hb ((hvo b).1 e.symm)
        have mv2 : ∀ u ∈ us, ∀ b, blk1 u = some b -> w1.heap[b]? = w.heap[b]? := fun u hu b hb =>
         r3.block b (hlt2 u (List.mem_cons_of_mem _ hu) b hb) fun e => cross v List.mem_cons_self u (List.mem_cons_of_mem _ hu) b ((hvo b).1 e.symm) hb
        obtain ⟨m1, m2, m3⟩ := hW.merge (w' := w1) (is := [ai, bi]) (o := .fst ⟨fl && fl', i.e, tt', xs ++ ys⟩ 0) (x := .tuple (v1 :: (vs ++ us)).toArray) rfl (fun b hb hx => by
          obtain ⟨u, hu, hbu⟩ := blk_tuple.1 hx
          rcases List.mem_cons.1 hu with rfl | hu
          ·rcases hv1 b hbu with h | h
           ·exact ⟨ai, by simp, _, _, hoa, rfl, hba, hba' v List.mem_cons_self b h⟩
           ·omega
          ·rcases List.mem_append.1 hu with hu | hu
           ·exact ⟨ai, by simp, _, _, hoa, rfl, hba, hba' u (List.mem_cons_of_mem _ hu) b hbu⟩
           ·exact ⟨bi, by simp, _, _, hob, rfl, hbb, hbb' u (List.mem_cons_of_mem _ hu) b hbu⟩) r3.os r3.tape r3.output r3.size
         (fun b hb h => r3.block b hb fun e => h ai (by simp) _ _ hoa rfl hba (hba' v List.mem_cons_self b ((hvo b).1 e.symm))) (fun hm => by
          refine ⟨v1, vs ++ us, cells ++ cells', rfl, by simpa using r2, by simp [hl1, hl2, Nat.add_mul], fun u hu => (List.mem_append.1 hu).elim (hi1.move mv1 u) (hi2.move mv2 u), fun j el hj _ => ?_, fun hfl b hb => ?_, ?_⟩
          ·have hj : (xs ++ ys)[j]? = some el := hj
           show CelO w1 tt' el (((cells ++ cells').drop (j * tt'.sz)).take tt'.sz) (((vs ++ us).drop (j * tt'.nr)).take tt'.nr)
           rw [List.getElem?_append] at hj
           split at hj
           ·rename_i hlt
            rw [chunk_left (by rw [ho1.1]; exact Nat.mul_le_mul_right _ hlt), chunk_left (by rw [hl1]; exact Nat.mul_le_mul_right _ hlt)]
            exact (hc1 j el hj (Nat.zero_le _)).move fun u hu => mv1 u (sub_mem hu)
           ·rename_i hge
            rw [chunk_right ho1.1 (by omega), chunk_right hl1 (by omega)]
            exact (hc2 _ el hj (Nat.zero_le _)).move fun u hu => mv2 u (sub_mem hu)
          ·have hfl := Bool.and_eq_true_iff.1 hfl
           obtain ⟨u, hu, hbu⟩ := blk_tuple.1 hb
           rcases List.mem_cons.1 hu with rfl | hu
           ·rcases hv1 b hbu with h | h
            ·exact hf1 hfl.1 b (hba' v List.mem_cons_self b h)
            ·rw [h]; exact hW.hs
           ·rcases List.mem_append.1 hu with hu | hu
            ·exact hf1 hfl.1 b (hba' u (List.mem_cons_of_mem _ hu) b hbu)
            ·exact hf2 hfl.2 b (hbb' u (List.mem_cons_of_mem _ hu) b hbu)
          ·refine Dist.cons (hd1.tail.append hd2.tail fun u hu z hz b => cross u (List.mem_cons_of_mem _ hu) z (List.mem_cons_of_mem _ hz) b) fun u hu b hbu hb1 => ?_
           rcases hv1 b hb1 with h | h
           ·rcases List.mem_append.1 hu with hu | hu
            ·exact hd1.head u hu b hbu h
            ·exact cross v List.mem_cons_self u (List.mem_cons_of_mem _ hu) b h hbu
           ·rcases List.mem_append.1 hu with hu | hu
            ·have := hlt1 u (List.mem_cons_of_mem _ hu) b hbu
             omega
            ·have := hlt2 u (List.mem_cons_of_mem _ hu) b hbu
             omega)
        refine ⟨v1, w1, _, _, _, r1, h2, ⟨m1, hA.mono m2 fun _ _ h => get_snoc h, .nst _ _ (vs ++ us) ?_⟩, ⟨r3.size, fun b hb hne => r3.block b hb (Ne.symm hne)⟩, m3⟩
        show (β ++ [_])[p.2.ob.length]? = some _
        rw [← hW.len]
        simp
     ·cases h2
    ·cases h
   ·cases h
  ·cases h
 ·cases h

theorem prom_cases (P : Program) (t : TypeId) (x : AV) (σ : St) : St.prom P t x σ = (x, σ) ∨ x = .v (.slice none 0 0) := by
 unfold St.prom
 split
 ·rename_i hn
  exact .inr (isNil_eq hn)
 ·exact .inl rfl

theorem fstOf_len (hW : WRep cx β ob w) {x : AV} {v : Value} {s : Sq} (h : fstOf ob x = some s) (hr : RepV w (okB cx β ob) β x v) : ∃ A c, v = .slice A s.xs.length c := by
 unfold fstOf at h
 split at h
 ·split at h
  ·rename_i s' n hob
   obtain rfl := Option.some.inj h
   cases hr with
   |nst _ _ vs hb =>
    obtain ⟨y, us, cells, e, ho, _⟩ := hW.obj _ _ _ hob hb
    have e := List.cons.inj (by simpa using e : v :: vs = y :: us)
    rw [e.1]
    exact ownsM_sl ho
  ·cases h
 ·cases h

theorem pu_len {c : Call} (ho : o.op = .call c) (hcal : c.callee = .builtin .len) (g : Good cx β σ a w) (h : builtinOp P .len c.argTypes.toList (c.args.toList.map σ.ev) σ K = some r) :
  Pu P cx K r o β σ a w := by
 unfold builtinOp at h
 split at h
 ·rename_i x _ hargs
  split at h
  ·rename_i t hts
   have hta : c.argTypes = #[t] := Array.toList_inj.1 (by simpa using hts)
   obtain ⟨q, hq, hx⟩ : ∃ q, c.args = #[q] ∧ σ.ev q = x := by
    match hc : c.args.toList, hargs with
    |[q], hargs =>
     refine ⟨q, Array.toList_inj.1 (by simpa using hc), ?_⟩
     simpa using hargs
   have hxr := g.ev q
   rw [hx] at hxr
   have fin : ∀ n : Nat, (∀ w, (Builtin.len_ #[t] o.type #[a.eval q]).run P w = .ok (.int .i64 n) w) -> K (.v (.int .i64 n)) σ = some r -> Pu P cx K r o β σ a w := fun n h1 h2 =>
    pu_mk (v := .int .i64 n) (fun w => by simp [execOp, ho, resolve, hcal, invoke, builtin, hta, hq, h1 w]) ⟨h2, .v _⟩
   split at h
   ·rename_i s hu
    have := rep_v hxr
    exact fin s.size (fun w => len_run w (.inr ⟨hu, s, this, rfl⟩)) h
   ·rename_i x' e hu
    split at h
    ·rename_i hn
     rw [isNil_eq hn] at hxr
     have := rep_v hxr
     exact fin 0 (fun w => len_run w (.inl ⟨⟨e, hu⟩, none, 0, this⟩)) (by simpa using h)
    ·split at h
     ·rename_i s hs
      obtain ⟨A, cc, hv⟩ := fstOf_len g.W hs hxr
      exact fin s.xs.length (fun w => len_run w (.inl ⟨⟨e, hu⟩, A, cc, hv⟩)) h
     ·split at h
      ·rename_i s hs
       obtain ⟨A, cc, hv⟩ := seenN_len g.W hs hxr
       split at h
       ·obtain ⟨A2, c2, hv2⟩ := view_val hxr
        exact fin _ (fun w => len_run w (.inl ⟨⟨e, hu⟩, A2, c2, hv2⟩)) h
       ·exact fin s.xs.length (fun w => len_run w (.inl ⟨⟨e, hu⟩, A, cc, hv⟩)) h
      ·cases h
   ·cases h
  ·cases h
 all_goals first | contradiction | cases h

theorem nest_named {i : RowI} {same : Bool} {ai : Nat} {y : AV} {p : AV × St} (hp1 : p.1 = .nst ai) (h : appendN i same p y K = some r) : ∃ s, p.2.ob[ai]? = some (.nst s) := by
 unfold appendN at h
 rw [hp1] at h
 split at h
 ·rename_i a b hp
  obtain rfl := AV.nst.inj hp
  split at h
  ·rename_i s s' h1 h2
   exact ⟨s, h1⟩
  ·cases h
 ·cases h

theorem fst_named {i : RowI} {same : Bool} {ai : Nat} {y : AV} {p : AV × St} (hp1 : p.1 = .nst ai) (h : appendF i same p y K = some r) : ∃ s, p.2.ob[ai]? = some (.fst s 0) := by
 unfold appendF at h
 rw [hp1] at h
 split at h
 ·rename_i a b hp
  obtain rfl := AV.nst.inj hp
  split at h
  ·rename_i s s' h1 h2
   exact ⟨s, h1⟩
  ·cases h
 ·cases h

theorem own_blk1' {v : Value} {b : Nat} (h : v.ownBlock = some b) : blk1 v = some b := by
 cases v with
 |slice A n c => cases A <;> exact h
 |_ => cases h

theorem args2 {c : Call} {f : Operand -> AV} {x y : AV} (h : c.args.toList.map f = [x, y]) : ∃ q q', c.args = #[q, q'] ∧ f q = x ∧ f q' = y := by
 match hc : c.args.toList, h with
 |[q, q'], h =>
  refine ⟨q, q', Array.toList_inj.1 (by simpa using hc), ?_⟩
  simpa using h

theorem zero_cells {z : Array Value} {n m i : Nat} (hi : i < n * z.size) : (Builtin.zeroCells z n ++ Builtin.zeroCells z m).toList[i]? = z[i % z.size]? := by
 have h1 : i < (Builtin.zeroCells z n).size := by simpa [Builtin.zeroCells] using hi
 have hz : 0 < z.size := by
  rcases Nat.eq_zero_or_pos z.size with h | h
  ·rw [h] at hi; simp at hi
  ·exact h
 have h2 : i % z.size < z.size := Nat.mod_lt _ hz
 rw [Array.getElem?_toList, Array.getElem?_append_left h1]
 simp [Builtin.zeroCells, hi, h2]

theorem zeros_ok {c : Call} {t t' : TypeId} {i : RowI} {x y : AV} {q q' : Operand} {n : Int} (g : Good cx β σ a w) (hri : rowI P t = some i) (hta : c.argTypes = #[t, t']) (hq : c.args = #[q, q']) (ho : o.op = .call c) (hcal : c.callee = .builtin .append)
  (hzt : zerosTo P t' x y = some n) (hxr : RepV w (okB cx β σ.ob) β x (a.eval q)) (hyr : RepV w (okB cx β σ.ob) β y (a.eval q'))
  (h : br (decide (1 ≤ n ∧ n ≤ 1073741824)) (K (.own σ.ob.length) (σ.new (.row ⟨true, i.e, i.t, List.replicate n.toNat i.t.dflt⟩))) none = some r) (lvl : Nat := 1) : Goal P cx K r o lvl β σ a w Q := by
 obtain ⟨ie, z, hut, hie, hsz, hby, hz, hzo, hb16, hbpos⟩ := tyOf_row hri
 unfold zerosTo at hzt
 split at hzt
 ·rename_i hn
  split at hzt
  ·rename_i k m
   split at hzt
   ·rename_i kn hu'
    obtain rfl := Option.some.inj hzt
    rw [isNil_eq hn] at hxr
    have hv := rep_v hxr
    have hv' := rep_v hyr
    rcases br_some h with ⟨h1, h2⟩ | ⟨_, h2⟩
    ·obtain ⟨h0, hlim⟩ := of_decide_eq_true h1
     have hzc := zero_cel (w := w) (ok := okB cx β σ.ob true) i.t z.cells.toList hzo
     have hzl : z.cells.size = i.t.sz := by simpa using hzc.len
     have hm : ((m.toNat : Nat) : Int) = m := Int.toNat_of_nonneg (by omega)
     have hbz : m.toNat * ie.bytes ≤ 281474976710656 := by
      have : ie.bytes ≤ 65536 := by omega
      calc m.toNat * ie.bytes ≤ m.toNat * 65536 := Nat.mul_le_mul_left _ this
       _ ≤ 281474976710656 := by omega
     have hrun := Go.Lib.run_append_nil_zeros (P := P) w t t' o.type i.e ie z k kn hut hu' hie hz m.toNat (by omega) (by rw [hsz]; exact i.t.sz_pos) (by omega) hbz
     rw [hm] at hrun
     have hmax : m.toNat ≤ maxLen := by unfold maxLen; omega
     have hge := grownCap_ge w m.toNat 0 i.e
     have g' : Good cx β σ a w.drew := ⟨g.W.same (Same.drew w), ARep.mono (w := w) (fun _ _ h _ => ⟨h, rfl⟩) (fun _ _ h => h) g.A⟩
     have hres := newRow_res (a := a) (s := ⟨true, i.e, i.t, List.replicate m.toNat i.t.dflt⟩) (n := m.toNat) (cap := grownCap w m.toNat 0 i.e) (cur := Builtin.zeroCells z.cells m.toNat ++ Builtin.zeroCells z.cells (grownCap w m.toNat 0 i.e - m.toNat)) g'.W g'.A (by simp) hge (grownCap_le_maxLen w m.toNat 0 i.e hmax) (by
      simp only [Array.size_append, size_zeroCells, hzl, ← Nat.add_mul]
      congr 1
      omega) (by
      intro j y hy
      have hj : j < m.toNat := by have := get_lt hy; simpa using this
      have hyd : y = i.t.dflt := by
       have hy' : (List.replicate m.toNat i.t.dflt)[j]? = some y := hy
       rw [List.getElem?_replicate, if_pos hj] at hy'
       exact (Option.some.inj hy').symm
      refine ⟨z.cells.toList, by rw [hyd]; exact zero_cel i.t z.cells.toList hzo, fun p x hx => ?_⟩
      have hp : p < i.t.sz := by have := get_lt hx; rw [hzc.len] at this; exact this
      have hjm : (j + 1) * i.t.sz ≤ m.toNat * i.t.sz := Nat.mul_le_mul_right _ (by omega)
      rw [Nat.succ_mul] at hjm
      show (Builtin.zeroCells z.cells m.toNat ++ _).toList[j * i.t.sz + p]? = some x
      rw [zero_cells (by rw [hzl]; omega), hzl, show (j * i.t.sz + p) % i.t.sz = p from by rw [Nat.mul_comm, Nat.mul_add_mod]; exact Nat.mod_eq_of_lt hp]
      simpa using hx)
     exact wp_value (by simp [execOp, ho, resolve, hcal, invoke, builtin, hta, hq, hv, hv', hrun]) ⟨_, _, _, _, h2, rfl, hres, .of_same ((Same.drew w).trans (Same.alloc w.drew _)) _, Ext.snoc g.W.len (fun _ b hb => by simp [blk, blk1] at hb; omega) _⟩
    ·cases h2
   ·cases hzt
  ·cases hzt
 ·cases hzt

theorem wp_builtin {b : Builtin} {c : Call} (ho : o.op = .call c) (hcal : c.callee = .builtin b) (g : Good cx β σ a w) (h : builtinOp P b c.argTypes.toList (c.args.toList.map σ.ev) σ K = some r) :
  Goal P cx K r o (bLvl b) β σ a w Q := by
 unfold builtinOp at h
 split at h
 ·-- len
  rename_i x hargs
  split at h
  ·rename_i t hts
   have hta : c.argTypes = #[t] := Array.toList_inj.1 (by simpa using hts)
   obtain ⟨q, hq, hx⟩ : ∃ q, c.args = #[q] ∧ σ.ev q = x := by
    match hc : c.args.toList, hargs with
    |[q], hargs =>
     refine ⟨q, Array.toList_inj.1 (by simpa using hc), ?_⟩
     simpa using hargs
   have hxr := g.ev q
   rw [hx] at hxr
   have fin : ∀ n : Nat, (Builtin.len_ #[t] o.type #[a.eval q]).run P w = .ok (.int .i64 n) w -> K (.v (.int .i64 n)) σ = some r -> Goal P cx K r o 0 β σ a w Q := fun n h1 h2 =>
    wp_value (v := .int .i64 n) (by simp [execOp, ho, resolve, hcal, invoke, builtin, hta, hq, h1]) (Post.same g h2 (.v _))
   split at h
   ·rename_i s hu
    have := rep_v hxr
    exact fin s.size (len_run w (.inr ⟨hu, s, this, rfl⟩)) h
   ·rename_i x' e hu
    split at h
    ·rename_i hn
     rw [isNil_eq hn] at hxr
     have := rep_v hxr
     exact fin 0 (len_run w (.inl ⟨⟨e, hu⟩, none, 0, this⟩)) (by simpa using h)
    ·split at h
     ·rename_i s hs
      obtain ⟨A, cc, hv⟩ := fstOf_len g.W hs hxr
      exact fin s.xs.length (len_run w (.inl ⟨⟨e, hu⟩, A, cc, hv⟩)) h
     ·split at h
      ·rename_i s hs
       obtain ⟨A, cc, hv⟩ := seenN_len g.W hs hxr
       split at h
       ·obtain ⟨A2, c2, hv2⟩ := view_val hxr
        exact fin _ (len_run w (.inl ⟨⟨e, hu⟩, A2, c2, hv2⟩)) h
       ·exact fin s.xs.length (len_run w (.inl ⟨⟨e, hu⟩, A, cc, hv⟩)) h
      ·cases h
   ·cases h
  ·cases h
 ·-- append
  rename_i x y hargs
  split at h
  ·rename_i t t' hts
   have hta : c.argTypes = #[t, t'] := Array.toList_inj.1 (by simpa using hts)
   obtain ⟨q, q', hq, hx, hy⟩ : ∃ q q', c.args = #[q, q'] ∧ σ.ev q = x ∧ σ.ev q' = y := by
    match hc : c.args.toList, hargs with
    |[q, q'], hargs =>
     refine ⟨q, q', Array.toList_inj.1 (by simpa using hc), ?_⟩
     simpa using hargs
   split at h
   ·rename_i i hri
    obtain ⟨ie, z, hut, hie, hsz, hby, hz, hzo, hb16, hbpos⟩ := tyOf_row hri
    have hxr := g.ev q
    rw [hx] at hxr
    split at h
    ·rename_i n hzt
     have hyr := g.ev q'
     rw [hy] at hyr
     exact zeros_ok g hri hta hq ho hcal hzt hxr hyr h
    obtain ⟨β1, ⟨p1, p2, p3⟩, p4, p5, p6, p7⟩ := prom_good (P := P) (t := t) (x := x) (v := a.eval q) (σ := σ) (a := a) ⟨g.W, g.A, hxr⟩
    have hcase := prom_cases P t x σ
    split at h
    ·obtain ⟨v1, w1, x', σ', β', r1, r2, r3, r4, r5⟩ := appendG_ok (ty := o.type) g hri hxr (by have := g.ev q'; rw [hy] at this; exact this) h
     exact wp_value (v := v1) (by simp [execOp, ho, resolve, hcal, invoke, builtin, hta, hq, r1]) ⟨_, _, _, _, r2, rfl, r3, r4, r5⟩
    generalize hp : St.prom P t x σ = p at *
    have hyr : RepV w (okB cx β1 p.2.ob) β1 y (a.eval q') := by
     have := g.ev q'
     rw [hy] at this
     exact this.mono (fun fl b hok hlt => ⟨p5 fl b hok hlt, rfl⟩) p4.ext
    split at h
    ·rename_i hnst
     have app : (∃ v1 w1 x' σ' β', (Builtin.append_ #[t, t'] o.type #[a.eval q, a.eval q']).run P w = .ok v1 w1 ∧ K x' σ' = some r ∧ Res cx β' σ' x' a v1 w1 ∧ (w.heap.size ≤ w1.heap.size ∧ ∀ b, b < w.heap.size -> (a.eval q).ownBlock ≠ some b -> w1.heap[b]? = w.heap[b]?) ∧ Ext 0 β1 p.2.ob w β' σ'.ob) ∧
       ∀ ai, p.1 = .nst ai -> ∃ o', p.2.ob[ai]? = some o' ∧ o'.rowish = true := by
      split at h
      ·exact ⟨appendF_ok (ty := o.type) p1 p2 hri p3 hyr h, fun ai e => by
        obtain ⟨s, h⟩ := fst_named e h
        exact ⟨_, h, rfl⟩⟩
      ·exact ⟨appendN_ok (ty := o.type) p1 p2 hri p3 hyr h, fun ai e => by
        obtain ⟨s, h⟩ := nest_named e h
        exact ⟨_, h, rfl⟩⟩
     obtain ⟨⟨v1, w1, x', σ', β', r1, r2, r3, r4, r5⟩, hnamed⟩ := app
     refine wp_value (v := v1) (by simp [execOp, ho, resolve, hcal, invoke, builtin, hta, hq, r1]) ⟨_, _, _, _, r2, rfl, r3, ⟨r4.1, fun b hb ht => r4.2 b hb fun e => ht ?_⟩, (p4.mono (Nat.zero_le _)).trans (r5.mono (Nat.zero_le _))⟩
     rcases hcase with he | he1
     ·subst he
      have : ∃ ai, x = .nst ai := by
       unfold isNst at hnst
       split at hnst
       ·rename_i ai hx'
        exact ⟨ai, hx'⟩
       ·cases hnst
      obtain ⟨ai, rfl⟩ := this
      have hxr' := hxr
      obtain ⟨o', hoa, hro⟩ := hnamed ai rfl
      cases hxr' with
      |nst _ _ vs hba => exact ⟨ai, _, _, hoa, hro, hba, blk_tuple.2 ⟨_, List.mem_cons_self, own_blk1' e⟩⟩
     ·rw [he1] at hxr
      rw [rep_v hxr] at e
      cases e
    unfold appendP at h
    split at h
    ·rename_i ai s' hpa
     split at h
     ·rename_i s2 hadd
      split at h
      ·rename_i hc
       obtain ⟨hse, hst⟩ := hc
       split at h
       ·rename_i ys hys
        rcases br_some h with ⟨h1, h2⟩ | ⟨_, h2⟩
        ·have hlim := of_decide_eq_true h1
         obtain ⟨s, xs, v0, cells, rfl, hob, hb1, hbv, hown, hcs⟩ := appTo_rep p1 hpa p3
         simp only at hse hst hys hlim h2
         obtain ⟨ht', rfl⟩ := as_eq hys
         obtain ⟨sf, se, st, sx⟩ := s2
         simp only at ht' hlim h2 hadd
         subst ht'
         simp only at hlim h2
         obtain ⟨v1, w1, news, r1, r2, r3, r4, r5⟩ := append_main (ty := o.type) p1 hri hadd hyr (by rw [← hse, ← hst]; exact hown) (by exact hst) hlim
         rw [← hse, ← hst] at r2
         have heff : Eff 1 β σ.ob w w1 := ⟨r3.size, fun b hb ht => r3.block b hb fun e => ht (by
          have e := (own_blk hown b).1 e.symm
          rcases hcase with he | he1
          ·subst he
           have hbo : β[ai]? = some v0 := by
            obtain ⟨_, _, v0', _, _, _, hb', _⟩ := appTo_rep g.W hpa hxr
            have := p4.ext _ _ hb'
            rw [hb1] at this
            rw [Option.some.inj this]
            exact hb'
           exact ⟨ai, _, v0, hob, rfl, hbo, hbv b e⟩
          ·rw [he1] at hxr
           rw [rep_v hxr] at e
           simp [blk, blk1] at e)⟩
         obtain ⟨hres, hext⟩ := append_res (fl2 := sf) (ys := sx) p1 p2 hob hb1 hbv hown hcs r2 r3 r4 r5
         exact wp_value (v := v1) (by simp [execOp, ho, resolve, hcal, invoke, builtin, hta, hq, r1]) ⟨_, _, _, _, h2, rfl, hres, heff, (p4.mono (Nat.zero_le _)).trans (hext.mono (Nat.zero_le _))⟩
        ·cases h2
       ·cases h
      ·cases h
     ·cases h
    ·cases h
   ·cases h
  ·cases h
 ·-- min
  rename_i k x k' y hargs
  split at h
  ·rename_i hk
   subst hk
   obtain ⟨q, q', hq, hx, hy⟩ := args2 hargs
   have hxr := g.ev q
   have hyr := g.ev q'
   rw [hx] at hxr
   rw [hy] at hyr
   exact wp_value (v := .int k (if y < x then y else x)) (by simp [execOp, ho, resolve, hcal, invoke, builtin, hq, rep_v hxr, rep_v hyr, Builtin.min_, Builtin.min2]) (Post.same g h (.v _))
  ·cases h
 ·-- max
  rename_i k x k' y hargs
  split at h
  ·rename_i hk
   subst hk
   obtain ⟨q, q', hq, hx, hy⟩ := args2 hargs
   have hxr := g.ev q
   have hyr := g.ev q'
   rw [hx] at hxr
   rw [hy] at hyr
   exact wp_value (v := .int k (if y > x then y else x)) (by simp [execOp, ho, resolve, hcal, invoke, builtin, hq, rep_v hxr, rep_v hyr, Builtin.max_, Builtin.max2]) (Post.same g h (.v _))
  ·cases h
 ·-- cap
  rename_i x hargs
  split at h
  ·rename_i t hts
   have hta : c.argTypes = #[t] := Array.toList_inj.1 (by simpa using hts)
   obtain ⟨q, hq, hx⟩ : ∃ q, c.args = #[q] ∧ σ.ev q = x := by
    match hc : c.args.toList, hargs with
    |[q], hargs =>
     refine ⟨q, Array.toList_inj.1 (by simpa using hc), ?_⟩
     simpa using hargs
   have hxr := g.ev q
   rw [hx] at hxr
   split at h
   ·rename_i e hu hn
    rw [isNil_eq hn] at hxr
    have hv := rep_v hxr
    exact wp_value (v := .int .i64 0) (by simp [execOp, ho, resolve, hcal, invoke, builtin, hta, hq, hv, Builtin.cap_, run_underlying hu, goInt]) (Post.same g h (.v _))
   ·cases h
  ·cases h
 ·cases h

end Go.Ev
