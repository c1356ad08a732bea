/- Each operation of the abstract machine is one of the machine's: length, append. -/
import Derived.Test.YtgbpgjfjohoabaaEvOps6
import Derived.Lib.AppendStr
namespace Go.Ev
open Go.Lib
set_option linter.unusedVariables false
set_option linter.unusedSimpArgs false

variable {P : Program} {R : Type} {cx : Cx} {β β' : List Value} {ob ob' : List O} {w w' : World} {σ σ' : St} {a a' : Act}
variable {o : Oper} {K : AV → St → Option R} {r : R} {Q : Exit → Act → World → Prop} {Γ : FuncId → Option Sum}

/-- What a slice's value shows, with the footprints of its elements, and its own block. -/
theorem seen_rep (hW : WRep cx β ob w) {x : AV} {v : Value} {s : Sq} (h : seen ob x = some s) (hr : RepV w (okB cx β ob) β x v) :
    ∃ A c, v = .slice A s.xs.length c ∧ s.xs.length ≤ c ∧ (∀ hpos : 0 < s.xs.length, ∃ ad, A = some ad ∧ ∀ j, j < s.xs.length → ∃ cs y, s.xs[j]? = some y ∧ Cel w (okB cx β ob s.fl) s.t y cs ∧ ∀ (k : Nat) (u : Value), cs[k]? = some u → w.cell? (ad.add (j * s.t.sz + k)) = some u) := by
  cases x <;> first | (simp [seen] at h; done) | skip
  · rename_i s'
    obtain rfl := Option.some.inj h
    cases hr with
    | rd _ A c hc hrow =>
      refine ⟨A, c, rfl, hc, fun hpos => ?_⟩
      obtain ⟨ad, rfl, _, hel⟩ := hrow hpos
      exact ⟨ad, rfl, fun j hj => let ⟨cs, ⟨y, hy, h1⟩, h2⟩ := hel j hj; ⟨cs, y, hy, h1, h2⟩⟩
  · rename_i i
    cases hr with
    | own _ _ hb =>
      rcases seen_own h with hob | hob
      · obtain ⟨cells, hown, _, hc⟩ := hW.obj i _ _ hob hb
        rcases hown.2 with ⟨rfl, hn⟩ | ⟨g, cap, cur, rfl, _, hg, hncap, _⟩
        · exact ⟨none, 0, by rw [hn], by omega, fun hpos => by omega⟩
        · refine ⟨_, cap, rfl, hncap, fun hpos => ⟨⟨g, 0, none⟩, rfl, fun j hj => ?_⟩⟩
          obtain ⟨cs, h1, h2⟩ := hc j s.xs[j] (List.getElem?_eq_getElem hj)
          exact ⟨cs, _, List.getElem?_eq_getElem hj, h1, fun k u hu => hown.cells rfl _ u (h2 k u hu)⟩
      · obtain ⟨A, c, rfl, hc, hrow⟩ := hW.obj i _ _ hob hb
        refine ⟨A, c, rfl, hc, fun hpos => ?_⟩
        obtain ⟨ad, rfl, _, hel⟩ := hrow hpos
        exact ⟨ad, rfl, fun j hj => let ⟨cs, ⟨y, hy, h1⟩, h2⟩ := hel j hj; ⟨cs, y, hy, h1, h2⟩⟩
  · rename_i i z lo n
    obtain ⟨q, hq, hz, rfl⟩ := seen_view h
    cases hr with
    | view _ _ _ _ A0 L c0 A hb hn hL hA =>
      have main : ∃ A' c', Value.slice A0 L c0 = .slice A' q.xs.length c' ∧ q.xs.length ≤ c' ∧ (∀ hpos : 0 < q.xs.length, ∃ ad, A' = some ad ∧ ∀ j, j < q.xs.length → ∃ cs y, q.xs[j]? = some y ∧ Cel w (okB cx β ob q.fl) q.t y cs ∧ ∀ (k : Nat) (u : Value), cs[k]? = some u → w.cell? (ad.add (j * q.t.sz + k)) = some u) := by
        rcases seen_own hq with hob | hob
        · obtain ⟨cells, hown, _, hc⟩ := hW.obj i _ _ hob hb
          rcases hown.2 with ⟨he, hn0⟩ | ⟨g, cap, cur, he, _, hg, hncap, _⟩
          · exact ⟨none, 0, by rw [he, hn0], by omega, fun hpos => by omega⟩
          · refine ⟨_, cap, he, hncap, fun hpos => ⟨⟨g, 0, none⟩, rfl, fun j hj => ?_⟩⟩
            obtain ⟨cs, h1, h2⟩ := hc j q.xs[j] (List.getElem?_eq_getElem hj)
            rw [he] at hown
            exact ⟨cs, _, List.getElem?_eq_getElem hj, h1, fun k u hu => hown.cells rfl _ u (h2 k u hu)⟩
        · obtain ⟨A', c, he, hc, hrow⟩ := hW.obj i _ _ hob hb
          refine ⟨A', c, he, hc, fun hpos => ?_⟩
          obtain ⟨ad, rfl, _, hel⟩ := hrow hpos
          exact ⟨ad, rfl, fun j hj => let ⟨cs, ⟨y, hy, h1⟩, h2⟩ := hel j hj; ⟨cs, y, hy, h1, h2⟩⟩
      obtain ⟨A', c', he, hc', hel⟩ := main
      obtain ⟨rfl, rfl, rfl⟩ := Value.slice.inj he
      have hl := sub_len hn
      refine ⟨A, c0 - lo, by rw [hl], by rw [hl]; omega, fun hpos => ?_⟩
      rw [hl] at hpos
      have hq0 : 0 < q.xs.length := by omega
      obtain ⟨ad, hA0, hel2⟩ := hel hq0
      subst hA0
      rcases hA with rfl | ⟨e1, e2⟩
      · refine ⟨ad.add (lo * z), rfl, fun j hj => ?_⟩
        rw [hl] at hj
        obtain ⟨cs, y, h1, h2, h3⟩ := hel2 (lo + j) (by omega)
        refine ⟨cs, y, ?_, h2, fun k u hu => ?_⟩
        · show ((q.xs.drop lo).take n)[j]? = some y
          rw [List.getElem?_take, if_pos hj, List.getElem?_drop]
          exact h1
        · rw [add_add, ← h3 k u hu, ← hz, Nat.add_mul]
          show w.cell? (ad.add (lo * q.t.sz + (j * q.t.sz + k))) = _
          congr 2
          omega
      · omega

theorem view_val {ok : Bool → Nat → Prop} {i z lo n : Nat} {v : Value} (h : RepV w ok β (.view i z lo n) v) : ∃ A c, v = .slice A n c := by
  cases h with
  | view _ _ _ _ A0 L c0 A hb hn hL hA => exact ⟨_, _, rfl⟩

theorem len_run {t ty : TypeId} {v : Value} {n : Nat} (w : World) (h : (∃ e, P.underlying t = some (.slice e)) ∧ (∃ A c, v = .slice A n c) ∨ (P.underlying t = some .string ∧ ∃ s : ByteArray, v = .string s ∧ n = s.size)) :
    (Builtin.len_ #[t] ty #[v]).run P w = .ok (.int .i64 n) w := by
  rcases h with ⟨⟨e, hu⟩, A, c, rfl⟩ | ⟨hu, s, rfl, rfl⟩
  · simp [Builtin.len_, run_underlying hu, goInt]
  · simp [Builtin.len_, run_underlying hu, goInt]

theorem run_append_none {t ty e : TypeId} {i : TypeInfo} {v : Value} {n sz c : Nat} {xs : List Value} (ht : P.underlying t = some (.slice e)) (hi : P.info? e = some i) (hown : w.ownsRow 0 e sz v n xs) :
    (Builtin.append_ #[t, t] ty #[v, .slice none 0 c]).run P w = .ok v w := by
  rcases hown.2 with ⟨rfl, rfl⟩ | ⟨g, cap, cur, rfl, _, _, hnc, _⟩
  · simp [Builtin.append_, run_underlying ht, sizeOf, typeInfo, hi, Builtin.lenOf, Builtin.firstCells]
  · simp [Builtin.append_, run_underlying ht, sizeOf, typeInfo, hi, Builtin.lenOf, Builtin.firstCells, hnc, storeCells]

/-- The cells of a row that is seen, in one list. -/
theorem all_cells {ok : Nat → Prop} {t : Ty} {xs : List t.S} {ad : Addr} : ∀ n, n ≤ xs.length → (∀ j, j < xs.length → ∃ cs y, xs[j]? = some y ∧ Cel w ok t y cs ∧ ∀ (k : Nat) (u : Value), cs[k]? = some u → w.cell? (ad.add (j * t.sz + k)) = some u) →
    ∃ news : List Value, news.length = n * t.sz ∧ (∀ (k : Nat) (u : Value), news[k]? = some u → w.cell? (ad.add k) = some u) ∧ (∀ u ∈ news, u.oneCell' = true) ∧
      ∀ j y, j < n → xs[j]? = some y → ∃ cs, Cel w ok t y cs ∧ ∀ (k : Nat) (u : Value), cs[k]? = some u → news[j * t.sz + k]? = some u
  | 0, _, _ => ⟨[], by simp, fun k u hu => by simp at hu, fun u hu => by simp at hu, fun j y hj => by omega⟩
  | n + 1, hn, hel => by
    obtain ⟨news, h1, h2, h3, h4⟩ := all_cells n (by omega) hel
    obtain ⟨cs, y, hy, hc, hcell⟩ := hel n (by omega)
    refine ⟨news ++ cs, by rw [List.length_append, h1, hc.len, Nat.succ_mul], fun k u hu => ?_, fun u hu => ?_, fun j z hj hz => ?_⟩
    · rw [List.getElem?_append, h1] at hu
      split at hu
      · exact h2 k u hu
      · rename_i hk
        have := hcell _ u hu
        rw [show n * t.sz + (k - n * t.sz) = k from by omega] at this
        exact this
    · rcases List.mem_append.1 hu with hu | hu
      · exact h3 u hu
      · exact hc.one u hu
    · rcases Nat.lt_or_ge j n with hlt | hge
      · obtain ⟨cs', h5, h6⟩ := h4 j z hlt hz
        refine ⟨cs', h5, fun k u hu => ?_⟩
        have := h6 k u hu
        rw [List.getElem?_append, if_pos (get_lt this)]
        exact this
      · obtain rfl : j = n := by omega
        rw [hy] at hz
        obtain rfl := Option.some.inj hz
        refine ⟨cs, hc, fun k u hu => ?_⟩
        rw [List.getElem?_append, h1, if_neg (by omega)]
        rw [show j * t.sz + k - j * t.sz = k from by omega]
        exact hu


theorem own_blk {v : Value} {n sz : Nat} {e : TypeId} {xs : List Value} (h : w.ownsRow 0 e sz v n xs) : v.ownBlock = blk v := by
  rcases h.2 with ⟨rfl, _⟩ | ⟨g, cap, cur, rfl, _⟩ <;> rfl

/-- A row is appended to: the old one is gone, the new one takes its place. -/
theorem append_res {i : Nat} {s : Sq} {v0 v v' : Value} {fr : List AV} {xs ys : List s.t.S} {fl2 : Bool} {cells news : List Value} (hW : WRep cx β ob w) (hA : ARep w (okB cx β ob) β fr a)
    (ho : ob[i]? = some (.row s)) (hv : β[i]? = some v0) (hbv : ∀ b, blk v = some b → blk v0 = some b) (hown : w.ownsRow 0 s.e s.t.sz v xs.length cells)
    (hc : ∀ j y, xs[j]? = some y → ∃ cs, Cel w (okB cx β ob s.fl) s.t y cs ∧ ∀ (k : Nat) (u : Value), cs[k]? = some u → cells[j * s.t.sz + k]? = some u)
    (hown' : w'.ownsRow 0 s.e s.t.sz v' (xs.length + ys.length) (cells ++ news)) (hg : w.grownBy w' v.ownBlock) (hat : v'.ownBlock = v.ownBlock ∨ v'.ownBlock = some w.heap.size)
    (hnews : ∀ j y, ys[j]? = some y → ∃ cs, Cel w (okB cx β ob fl2) s.t y cs ∧ ∀ (k : Nat) (u : Value), cs[k]? = some u → news[j * s.t.sz + k]? = some u) :
    Res cx (β ++ [v']) ⟨fr, ob.set i .gone ++ [.row ⟨s.fl && fl2, s.e, s.t, xs ++ ys⟩]⟩ (.own ob.length) a v' w' := by
  rw [own_blk hown', own_blk hown] at hat
  rw [own_blk hown] at hg
  have hi : i < ob.length := get_lt ho
  have hlen : β.length = (ob.set i .gone).length := by simp [hW.len]
  have hgone : ∀ b, LiveB β (ob.set i .gone) b → LiveB β ob b := by
    rintro b ⟨j, o1, x1, h1, l1, k1, b1⟩
    rcases mem_set h1 with ⟨_, h1⟩ | ⟨rfl, rfl, _⟩
    · exact ⟨j, o1, x1, h1, l1, k1, b1⟩
    · simp [O.live] at l1
  have hlive : ∀ b, b < w.heap.size → LiveB (β ++ [v']) (ob.set i .gone ++ [.row ⟨s.fl && fl2, s.e, s.t, xs ++ ys⟩]) b → LiveB β ob b := fun b hb hl => by
    rcases live_snoc hlen hl with hl | ⟨_, hx⟩
    · exact hgone b hl
    · rcases hat with h | h
      · rw [h] at hx
        exact ⟨i, _, v0, ho, rfl, hv, hbv b hx⟩
      · rw [h] at hx
        have := Option.some.inj hx
        omega
  have hm : ∀ fl b, okB cx β ob fl b → b < w.heap.size → okB cx (β ++ [v']) (ob.set i .gone ++ [.row ⟨s.fl && fl2, s.e, s.t, xs ++ ys⟩]) fl b ∧ w'.heap[b]? = w.heap[b]? := fun fl b hok hb =>
    ⟨okB_of hok (hlive b hb), hg.block b hb fun e => hok.1 ⟨i, _, v0, ho, rfl, hv, hbv b e.symm⟩⟩
  have hβ : ∀ (j : Nat) (x : Value), β[j]? = some x → (β ++ [v'])[j]? = some x := fun _ _ h => get_snoc h
  obtain ⟨_, _, hfr, _⟩ := hW.obj i _ v0 ho hv
  have hnewO : RepO cx w' (okB cx (β ++ [v']) (ob.set i .gone ++ [.row ⟨s.fl && fl2, s.e, s.t, xs ++ ys⟩])) (β ++ [v']) (.row ⟨s.fl && fl2, s.e, s.t, xs ++ ys⟩) v' := by
    refine ⟨cells ++ news, by simpa using hown', fun hfl b hb => ?_, fun j y hy => ?_⟩
    · rcases hat with h | h
      · rw [h] at hb
        exact hfr (Bool.and_eq_true_iff.1 hfl).1 b (hbv b hb)
      · rw [h] at hb
        obtain rfl := Option.some.inj hb
        exact hW.hs
    · have w1 : (s.fl && fl2) = true → s.fl = true := fun h => (Bool.and_eq_true_iff.1 h).1
      have w2 : (s.fl && fl2) = true → fl2 = true := fun h => (Bool.and_eq_true_iff.1 h).2
      have hy' : (xs ++ ys)[j]? = some y := hy
      rw [List.getElem?_append] at hy'
      split at hy'
      · obtain ⟨cs, h1, h2⟩ := hc j y hy'
        refine ⟨cs, (h1.weaken w1).mono (hm _), fun k u hu => ?_⟩
        have := h2 k u hu
        show (cells ++ news)[j * s.t.sz + k]? = some u
        rw [List.getElem?_append, if_pos (get_lt this)]
        exact this
      · rename_i hj
        obtain ⟨cs, h1, h2⟩ := hnews _ y hy'
        refine ⟨cs, (h1.weaken w2).mono (hm _), fun k u hu => ?_⟩
        have := h2 k u hu
        show (cells ++ news)[j * s.t.sz + k]? = some u
        have hcl := hown.1
        have hjz : xs.length * s.t.sz ≤ j * s.t.sz := Nat.mul_le_mul_right _ (by omega)
        rw [List.getElem?_append, if_neg (by omega), hcl, ← this, Nat.sub_mul]
        congr 1
        omega
  refine ⟨⟨Nat.le_trans hW.hs hg.size, fun b hb hp => ?_, hg.os.trans hW.os, hg.tape.trans hW.tape, hg.output.trans hW.out, by simp [hW.len], fun j x hx => hβ j x (hW.pre j x hx), ?_, ?_, ?_⟩, hA.mono hm hβ, .own _ _ ?_⟩
  · rw [hg.block b (Nat.lt_of_lt_of_le hb hW.hs) (fun e => ?_), hW.keep b hb hp]
    rcases hW.own i _ v0 b ho rfl hv (hbv b e.symm) with h1 | h1
    · exact hp h1
    · omega
  · intro j o1 x1 h1 k1
    rcases both_snoc hlen h1 k1 with ⟨p1, q1⟩ | ⟨_, rfl, rfl⟩
    · rcases mem_set p1 with ⟨hne, p1⟩ | ⟨rfl, rfl, _⟩
      · refine (hW.obj j o1 x1 p1 q1).mono hm hβ fun hl b hb => hg.block b ((hW.obj j o1 x1 p1 q1).lt hl hb) fun e => hne (hW.sep j i o1 _ x1 v0 b p1 ho hl rfl q1 hv hb (hbv b e.symm))
      · trivial
    · exact hnewO
  · intro j k o1 o2 x1 x2 b h1 h2 l1 l2 k1 k2 b1 b2
    have key : ∀ (j : Nat) (o1 : O) (x1 : Value), (ob.set i .gone)[j]? = some o1 → β[j]? = some x1 → o1.live = true → blk x1 = some b → blk v' = some b → False := fun j o1 x1 p1 q1 l1 b1 b2 => by
      rcases mem_set p1 with ⟨hne, p1⟩ | ⟨rfl, rfl, _⟩
      · rcases hat with h | h
        · rw [h] at b2
          exact hne (hW.sep j i o1 _ x1 v0 b p1 ho l1 rfl q1 hv b1 (hbv b b2))
        · rw [h] at b2
          have := Option.some.inj b2
          have := (hW.obj j o1 x1 p1 q1).lt l1 b1
          omega
      · simp [O.live] at l1
    rcases both_snoc hlen h1 k1 with ⟨p1, q1⟩ | ⟨e1, rfl, rfl⟩ <;> rcases both_snoc hlen h2 k2 with ⟨p2, q2⟩ | ⟨e2, rfl, rfl⟩
    · rcases mem_set p1 with ⟨_, p1⟩ | ⟨rfl, rfl, _⟩
      · rcases mem_set p2 with ⟨_, p2⟩ | ⟨rfl, rfl, _⟩
        · exact hW.sep j k o1 o2 x1 x2 b p1 p2 l1 l2 q1 q2 b1 b2
        · simp [O.live] at l2
      · simp [O.live] at l1
    · exact (key j o1 x1 p1 q1 l1 b1 b2).elim
    · exact (key k o2 x2 p2 q2 l2 b2 b1).elim
    · omega
  · intro j o1 x1 b h1 l1 k1 b1
    rcases both_snoc hlen h1 k1 with ⟨p1, q1⟩ | ⟨_, rfl, rfl⟩
    · rcases mem_set p1 with ⟨_, p1⟩ | ⟨rfl, rfl, _⟩
      · exact hW.own j o1 x1 b p1 l1 q1 b1
      · simp [O.live] at l1
    · rcases hat with h | h
      · rw [h] at b1
        exact hW.own i _ v0 b ho rfl hv (hbv b b1)
      · rw [h] at b1
        obtain rfl := Option.some.inj b1
        exact .inr hW.hs
  · rw [← hW.len]
    simp

theorem append_ext {i : Nat} {s s2 : Sq} {v0 v v' : Value} {n n2 : Nat} {cells cells' : List Value} {sz sz' : Nat} {e e' : TypeId} (hW : WRep cx β ob w) (ho : ob[i]? = some (.row s)) (hv : β[i]? = some v0) (hbv : ∀ b, blk v = some b → blk v0 = some b)
    (hown : w.ownsRow 0 e' sz' v n cells) (hown' : w'.ownsRow 0 e sz v' n2 cells') (hat : v'.ownBlock = v.ownBlock ∨ v'.ownBlock = some w.heap.size) : Ext 0 β ob w (β ++ [v']) (ob.set i .gone ++ [.row s2]) := by
  rw [own_blk hown', own_blk hown] at hat
  have hlen : β.length = (ob.set i .gone).length := by simp [hW.len]
  refine ⟨fun _ _ h => get_snoc h, fun l _ b hb ht => ?_⟩
  have hnew : blk v' = some b → blk v0 = some b := fun h => by
    rcases hat with h' | h'
    · exact hbv b (by rw [← h']; exact h)
    · rw [h'] at h
      have := Option.some.inj h
      omega
  match l, ht with
  | 0, ht => exact ht
  | 1, ht =>
    obtain ⟨j, q, y, h1, h2, h3⟩ := ht
    rcases both_snoc hlen h1 h2 with ⟨k1, k2⟩ | ⟨_, k1, k2⟩
    · rcases mem_set k1 with ⟨_, k1⟩ | ⟨_, k1, _⟩
      · exact ⟨j, q, y, k1, k2, h3⟩
      · cases k1
    · subst k2
      exact ⟨i, s, v0, ho, hv, hnew h3⟩
  | l + 2, ht =>
    rcases live_snoc hlen ht with ⟨j, q, y, h1, h2, h3, h4⟩ | ⟨_, h⟩
    · rcases mem_set h1 with ⟨_, k1⟩ | ⟨_, k1, _⟩
      · exact ⟨j, q, y, k1, h2, h3, h4⟩
      · subst k1
        simp [O.live] at h2
    · exact ⟨i, _, v0, ho, rfl, hv, hnew h⟩

/-- What is appended to. -/
theorem appTo_rep (hW : WRep cx β ob w) {ok : Bool → Nat → Prop} {x : AV} {v : Value} {i : Nat} {s' : Sq} (h : appTo ob x = some (i, s')) (hr : RepV w ok β x v) :
    ∃ (s : Sq) (xs : List s.t.S) (v0 : Value) (cells : List Value), s' = ⟨s.fl, s.e, s.t, xs⟩ ∧ ob[i]? = some (.row s) ∧ β[i]? = some v0 ∧ (∀ b, blk v = some b → blk v0 = some b) ∧ w.ownsRow 0 s.e s.t.sz v xs.length cells ∧
      ∀ j y, xs[j]? = some y → ∃ cs, Cel w (okB cx β ob s.fl) s.t y cs ∧ ∀ (k : Nat) (u : Value), cs[k]? = some u → cells[j * s.t.sz + k]? = some u := by
  unfold appTo at h
  split at h
  · split at h
    · rename_i i' _ s hob
      obtain ⟨rfl, rfl⟩ := Prod.mk.inj (Option.some.inj h)
      cases hr with
      | own _ _ hb =>
        obtain ⟨cells, hown, _, hc⟩ := hW.obj _ _ _ hob hb
        exact ⟨s, s.xs, v, cells, rfl, hob, hb, fun _ h => h, hown, hc⟩
    · cases h
  · split at h
    · rename_i i' z lo n _ s hob
      split at h
      · rename_i hz
        obtain ⟨hz, rfl⟩ := hz
        obtain ⟨rfl, rfl⟩ := Prod.mk.inj (Option.some.inj h)
        cases hr with
        | view _ _ _ _ A0 L c0 A hb hn hL hA =>
          have hA : A = A0 := by
            rcases hA with rfl | ⟨_, h⟩
            · cases A0 <;> simp [Addr.add]
            · omega
          subst hA
          obtain ⟨cells, hown, _, hc⟩ := hW.obj _ _ _ hob hb
          have hL' : L = s.xs.length := by
            rcases hown.2 with ⟨he, h0⟩ | ⟨g, cap, cur, he, _⟩
            · obtain ⟨_, rfl, _⟩ := Value.slice.inj he
              exact h0.symm
            · obtain ⟨_, h1, _⟩ := Value.slice.inj he
              exact h1
          subst hL'
          have hlen : (s.xs.take n).length = n := by rw [List.length_take]; omega
          refine ⟨s, s.xs.take n, _, cells.take (n * s.t.sz), rfl, hob, hb, fun b hb => by cases A <;> exact hb, ?_, fun j y hy => ?_⟩
          · rw [hlen]
            refine ⟨by rw [List.length_take, hown.1]; exact Nat.min_eq_left (Nat.mul_le_mul_right _ (by omega)), ?_⟩
            rcases hown.2 with ⟨he, h0⟩ | ⟨g, cap, cur, he, hg0, hg, hcap, hm, hcur, htake⟩
            · obtain ⟨rfl, _, rfl⟩ := Value.slice.inj he
              left
              have : n = 0 := by omega
              subst this
              exact ⟨rfl, rfl⟩
            · obtain ⟨rfl, _, rfl⟩ := Value.slice.inj he
              refine .inr ⟨g, c0, cur, rfl, hg0, hg, by omega, hm, hcur, ?_⟩
              rw [← htake, List.take_take, Nat.min_eq_left (Nat.mul_le_mul_right _ (by omega))]
          · rw [List.getElem?_take] at hy
            split at hy
            · rename_i hj
              obtain ⟨cs, h1, h2⟩ := hc j y hy
              refine ⟨cs, h1, fun k u hu => ?_⟩
              have h3 := h2 k u hu
              have hk := get_lt hu
              rw [h1.len] at hk
              rw [List.getElem?_take, if_pos ?_]
              · exact h3
              · have : (j + 1) * s.t.sz ≤ n * s.t.sz := Nat.mul_le_mul_right _ (by omega)
                rw [Nat.add_mul] at this
                omega
            · cases hy
      · cases h
    · cases h
  · cases h

/-- A string's bytes are appended. -/
theorem run_append_str {t u ty e : TypeId} {i : TypeInfo} {v : Value} {n : Nat} {xs : List Value} (ht : P.underlying t = some (.slice e)) (hu : P.underlying u = some .string) (hi : P.info? e = some i) (hz : i.zero = some (.int .u8 0))
    (hsize : i.size = 1) (hby : i.bytes = 1) (hown : w.ownsRow 0 e 1 v n xs) (s : ByteArray) (h63 : n + s.size ≤ maxLen) (hbytes : n + s.size ≤ 140737488355328) :
    ∃ v' w', (Builtin.append_ #[t, u] ty #[v, .string s]).run P w = .ok v' w' ∧ w'.ownsRow 0 e 1 v' (n + s.size) (xs ++ strCells s) ∧ w.grownBy w' v.ownBlock ∧ (v'.ownBlock = v.ownBlock ∨ v'.ownBlock = some w.heap.size) := by
  obtain ⟨v', w', r1, r2, r3, _⟩ := run_append_own_string (P := P) w 0 t u ty e i ht hu hi hz hsize hby v n xs hown s h63 hbytes (Nat.zero_le _)
  refine ⟨v', w', r1, r2, r3, ?_⟩
  rcases hown.2 with ⟨rfl, rfl⟩ | ⟨g, cap, cur, rfl, _, hg, hnc, hcm, hcs, htake⟩
  · by_cases hm : s.size = 0
    · have hf := run_firstCells_string (P := P) w 1 s
      rw [hm] at hf
      have hn : strCells s = [] := List.eq_nil_of_length_eq_zero (by rw [strCells_length]; exact hm)
      simp [Builtin.append_, run_underlying ht, run_underlying hu, sizeOf, typeInfo, hi, hsize, Builtin.lenOf, hm, hf] at r1
      exact .inl (by rw [← r1.1])
    · have hr := run_append_nil_string (P := P) w t u ty e i (.int .u8 0) ht hu hi hz s (by omega) (by omega) (by rw [hby]; omega)
      rw [hr] at r1
      injection r1 with e1 e2
      exact .inr (by rw [← e1]; rfl)
  · have hxl : xs.length = n := by simpa using hown.1
    by_cases hroom : n + s.size ≤ cap
    · have hr := run_append_room_string (P := P) w t u ty e i ht hu hi hsize g n cap cur hg s hroom (by simpa [hcs] using hroom)
      rw [hr] at r1
      injection r1 with e1 e2
      exact .inl (by rw [← e1]; rfl)
    · have holds : ∀ j u, xs[j]? = some u → w.cell? ((⟨g, 0, none⟩ : Addr).add j) = some u := hown.cells (g := g) rfl
      have h63' : n + s.size ≤ 9223372036854775807 := by simp only [maxLen] at h63; omega
      have hr := run_append_grow_string (P := P) w t u ty e i (.int .u8 0) ht hu hi hz ⟨g, 0, none⟩ n cap xs (by rw [hsize]; simpa using hxl) holds s (by omega) (by omega) (by rw [hby]; exact growslice_fits (by omega) (by omega))
      rw [hr] at r1
      injection r1 with e1 e2
      exact .inr (by rw [← e1]; rfl)

/-- An append. -/
theorem append_main {t t' ty : TypeId} {i : RowI} {y : AV} {vy v : Value} {n : Nat} {cells : List Value} {s2 : Sq} (hW : WRep cx β ob w) (hri : rowI P t = some i) (hadd : addend i (t' == t) (isStrT P t' && isByteT P i.e) ob y = some s2)
    (hyr : RepV w (okB cx β ob) β y vy) (hown : w.ownsRow 0 i.e i.t.sz v n cells) (ht2 : s2.t = i.t) (hlim : (n + s2.xs.length) * i.bytes ≤ lim) :
    ∃ v1 w1 news, (Builtin.append_ #[t, t'] ty #[v, vy]).run P w = .ok v1 w1 ∧ w1.ownsRow 0 i.e i.t.sz v1 (n + s2.xs.length) (cells ++ news) ∧ w.grownBy w1 v.ownBlock ∧ (v1.ownBlock = v.ownBlock ∨ v1.ownBlock = some w.heap.size) ∧
      ∀ j y, s2.xs[j]? = some y → ∃ cs, Cel w (okB cx β ob s2.fl) s2.t y cs ∧ ∀ (k : Nat) (u : Value), cs[k]? = some u → news[j * s2.t.sz + k]? = some u := by
  obtain ⟨ie, z, hut, hie, hsz, hby, hz, hzo, hb16, hbpos⟩ := tyOf_row hri
  have hlim' : (n + s2.xs.length) * i.bytes ≤ 140737488355328 := hlim
  have hmax : n + s2.xs.length ≤ maxLen := by
    have h1 : (n + s2.xs.length) * 1 ≤ (n + s2.xs.length) * i.bytes := Nat.mul_le_mul_left _ hbpos
    unfold maxLen
    omega
  have hzl : z.cells.size = i.t.sz := by simpa using (zero_cel (w := w) (ok := okB cx β ob true) i.t z.cells.toList hzo).len
  -- a slice's value
  have slice : ∀ {A : Option Addr} {c : Nat}, vy = .slice A s2.xs.length c → t' = t →
      (∀ hpos : 0 < s2.xs.length, ∃ ad, A = some ad ∧ ∀ j, j < s2.xs.length → ∃ cs y, s2.xs[j]? = some y ∧ Cel w (okB cx β ob s2.fl) s2.t y cs ∧ ∀ (k : Nat) (u : Value), cs[k]? = some u → w.cell? (ad.add (j * s2.t.sz + k)) = some u) →
      ∃ v1 w1 news, (Builtin.append_ #[t, t'] ty #[v, vy]).run P w = .ok v1 w1 ∧ w1.ownsRow 0 i.e i.t.sz v1 (n + s2.xs.length) (cells ++ news) ∧ w.grownBy w1 v.ownBlock ∧ (v1.ownBlock = v.ownBlock ∨ v1.ownBlock = some w.heap.size) ∧
        ∀ j y, s2.xs[j]? = some y → ∃ cs, Cel w (okB cx β ob s2.fl) s2.t y cs ∧ ∀ (k : Nat) (u : Value), cs[k]? = some u → news[j * s2.t.sz + k]? = some u := by
    intro A c hv ht hrow
    subst hv ht
    have hnews : ∃ news : List Value, news.length = s2.xs.length * s2.t.sz ∧ (∀ ad, A = some ad → ∀ (k : Nat) (u : Value), news[k]? = some u → w.cell? (ad.add k) = some u) ∧ (∀ u ∈ news, u.oneCell' = true) ∧
        ∀ j y, s2.xs[j]? = some y → ∃ cs, Cel w (okB cx β ob s2.fl) s2.t y cs ∧ ∀ (k : Nat) (u : Value), cs[k]? = some u → news[j * s2.t.sz + k]? = some u := by
      rcases Nat.eq_zero_or_pos s2.xs.length with h0 | h0
      · refine ⟨[], by simp [h0], fun _ _ k u hu => by simp at hu, fun u hu => by simp at hu, fun j y hy => ?_⟩
        have := get_lt hy
        omega
      · obtain ⟨ad, hA, hel⟩ := hrow h0
        obtain ⟨news, n1, n2, n3, n4⟩ := all_cells s2.xs.length (Nat.le_refl _) hel
        refine ⟨news, n1, fun ad' he => ?_, n3, fun j y hy => n4 j y (get_lt hy) hy⟩
        rw [hA] at he
        obtain rfl := Option.some.inj he
        exact n2
    obtain ⟨news, n1, n2, n3, n4⟩ := hnews
    cases hA : A with
    | none =>
      have h0 : s2.xs.length = 0 := by
        rcases Nat.eq_zero_or_pos s2.xs.length with h0 | h0
        · exact h0
        · obtain ⟨ad, he, _⟩ := hrow h0
          rw [hA] at he
          cases he
      have hn0 : news = [] := List.eq_nil_of_length_eq_zero (by rw [n1, h0]; simp)
      rw [h0]
      exact ⟨_, _, news, run_append_none hut hie hown, by rw [hn0]; simpa using hown, ⟨rfl, rfl, rfl, Nat.le_refl _, fun _ _ _ => rfl⟩, .inl rfl, n4⟩
    | some ad =>
      obtain ⟨v1, w1, r1, r2, r3, _, r5⟩ := run_append_own_at (P := P) w 0 t' ty i.e ie z i.t.sz i.bytes hut hie hz hsz hby hzl i.t.sz_pos _ _ _ hown ad s2.xs.length c news (n1.trans (by have := congrArg Ty.sz ht2; rw [this])) (n2 ad hA) n3 hmax hlim' (Nat.zero_le _)
      exact ⟨v1, w1, news, r1, r2, r3, r5, n4⟩
  unfold addend at hadd
  split at hadd
  · rename_i A c
    split at hadd
    · rename_i htt
      obtain rfl := Option.some.inj hadd
      rw [rep_v hyr]
      exact rep_v hyr ▸ slice (A := A) (c := c) (rep_v hyr) (by simpa using htt) fun hpos => by simp at hpos
    · cases hadd
  · rename_i b
    split at hadd
    · rename_i hst
      obtain rfl := Option.some.inj hadd
      rw [Bool.and_eq_true] at hst
      obtain ⟨h1, h2⟩ := hst
      rw [rep_v hyr]
      have hu : P.underlying t' = some .string := by
        unfold isStrT at h1
        split at h1
        · assumption
        · cases h1
      unfold isByteT at h2
      split at h2
      · rename_i ie' hu8 hie'
        rw [hie] at hie'
        obtain rfl := Option.some.inj hie'
        simp only [Bool.and_eq_true, beq_iff_eq] at h2
        obtain ⟨⟨b1, b2⟩, b3⟩ := h2
        have hz8 : ie.zero = some (.int .u8 0) := by
          unfold isZ8 at b3
          split at b3
          · assumption
          · cases b3
        have hsz1 : i.t.sz = 1 := by rw [← hsz, b2]
        have hby1 : i.bytes = 1 := by rw [← hby, b1]
        have hbl : (bts b).length = b.size := by simp [bts]
        rw [hsz1] at hown ⊢
        have hl2 : n + b.size ≤ 140737488355328 := by
          have := hlim'
          rw [hby1] at this
          simp only [hbl] at this
          omega
        obtain ⟨v1, w1, r1, r2, r3, r4⟩ := run_append_str (P := P) (w := w) (t := t) (u := t') (ty := ty) hut hu hie hz8 b2 b1 hown b (by unfold maxLen; omega) hl2
        refine ⟨v1, w1, strCells b, r1, by simpa [hbl] using r2, r3, r4, fun j y hy => ?_⟩
        refine ⟨[.int .u8 y], rfl, fun k u hu => ?_⟩
        have hk : k = 0 := by
          have := get_lt hu
          simp at this
          exact this
        subst hk
        simp at hu
        subst hu
        have hy' : (bts b)[j]? = some y := hy
        show (strCells b)[j * 1 + 0]? = _
        simp only [bts, strCells, Nat.mul_one, Nat.add_zero] at hy' ⊢
        rw [List.getElem?_map] at hy' ⊢
        cases hq : b.data.toList[j]? with
        | none => rw [hq] at hy'; cases hy'
        | some q =>
          rw [hq] at hy'
          simp at hy'
          subst hy'
          simp
      · cases h2
    · cases hadd
  · split at hadd
    · rename_i htt
      split at hadd
      · rename_i q hq
        obtain rfl := Option.some.inj hadd
        obtain ⟨A, c, hv, _, hrow⟩ := seen_rep hW hq hyr
        refine slice hv (by simpa using htt) fun hpos => ?_
        obtain ⟨ad, hA, hel⟩ := hrow hpos
        refine ⟨ad, hA, fun j hj => ?_⟩
        obtain ⟨cs, y', h1, h2, h3⟩ := hel j hj
        refine ⟨cs, y', h1, ?_, h3⟩
        cases hf : q.t.flat with
        | true => exact h2.of_flat hf
        | false => exact h2.weaken (by simp)
      · cases hadd
    · cases hadd

theorem prom_cases (P : Program) (t : TypeId) (x : AV) (σ : St) : St.prom P t x σ = (x, σ) ∨ ∃ i : RowI, x = .v (.slice none 0 0) ∧ St.prom P t x σ = (.own σ.ob.length, σ.new (.row ⟨true, i.e, i.t, []⟩)) := by
  unfold St.prom
  split
  · rename_i hn
    cases hr : rowI P t with
    | none => exact .inl rfl
    | some i => exact .inr ⟨i, isNil_eq hn, rfl⟩
  · exact .inl rfl

theorem pu_len {c : Call} (ho : o.op = .call c) (hcal : c.callee = .builtin .len) (g : Good cx β σ a w) (h : builtinOp P .len c.argTypes.toList (c.args.toList.map σ.ev) σ K = some r) :
    Pu P cx K r o β σ a w := by
  unfold builtinOp at h
  split at h
  · rename_i x _ hargs
    split at h
    · rename_i t hts
      have hta : c.argTypes = #[t] := Array.toList_inj.1 (by simpa using hts)
      obtain ⟨q, hq, hx⟩ : ∃ q, c.args = #[q] ∧ σ.ev q = x := by
        match hc : c.args.toList, hargs with
        | [q], hargs =>
          refine ⟨q, Array.toList_inj.1 (by simpa using hc), ?_⟩
          simpa using hargs
      have hxr := g.ev q
      rw [hx] at hxr
      have fin : ∀ n : Nat, (∀ w, (Builtin.len_ #[t] o.type #[a.eval q]).run P w = .ok (.int .i64 n) w) → K (.v (.int .i64 n)) σ = some r → Pu P cx K r o β σ a w := fun n h1 h2 =>
        pu_mk (v := .int .i64 n) (fun w => by simp [execOp, ho, resolve, hcal, invoke, builtin, hta, hq, h1 w]) ⟨h2, .v _⟩
      split at h
      · rename_i s hu
        have := rep_v hxr
        exact fin s.size (fun w => len_run w (.inr ⟨hu, s, this, rfl⟩)) h
      · rename_i x' e hu
        split at h
        · rename_i hn
          rw [isNil_eq hn] at hxr
          have := rep_v hxr
          exact fin 0 (fun w => len_run w (.inl ⟨⟨e, hu⟩, none, 0, this⟩)) (by simpa using h)
        · split at h
          · rename_i s hs
            obtain ⟨A, cc, hv, _, _⟩ := seen_rep g.W hs hxr
            split at h
            · obtain ⟨A2, c2, hv2⟩ := view_val hxr
              exact fin _ (fun w => len_run w (.inl ⟨⟨e, hu⟩, A2, c2, hv2⟩)) h
            · exact fin s.xs.length (fun w => len_run w (.inl ⟨⟨e, hu⟩, A, cc, hv⟩)) h
          · cases h
      · cases h
    · cases h
  all_goals first | contradiction | cases h

theorem args2 {c : Call} {f : Operand → AV} {x y : AV} (h : c.args.toList.map f = [x, y]) : ∃ q q', c.args = #[q, q'] ∧ f q = x ∧ f q' = y := by
  match hc : c.args.toList, h with
  | [q, q'], h =>
    refine ⟨q, q', Array.toList_inj.1 (by simpa using hc), ?_⟩
    simpa using h

theorem wp_builtin {b : Builtin} {c : Call} (ho : o.op = .call c) (hcal : c.callee = .builtin b) (g : Good cx β σ a w) (h : builtinOp P b c.argTypes.toList (c.args.toList.map σ.ev) σ K = some r) :
    Goal P cx K r o (bLvl b) β σ a w Q := by
  unfold builtinOp at h
  split at h
  · -- len
    rename_i x hargs
    split at h
    · rename_i t hts
      have hta : c.argTypes = #[t] := Array.toList_inj.1 (by simpa using hts)
      obtain ⟨q, hq, hx⟩ : ∃ q, c.args = #[q] ∧ σ.ev q = x := by
        match hc : c.args.toList, hargs with
        | [q], hargs =>
          refine ⟨q, Array.toList_inj.1 (by simpa using hc), ?_⟩
          simpa using hargs
      have hxr := g.ev q
      rw [hx] at hxr
      have fin : ∀ n : Nat, (Builtin.len_ #[t] o.type #[a.eval q]).run P w = .ok (.int .i64 n) w → K (.v (.int .i64 n)) σ = some r → Goal P cx K r o 0 β σ a w Q := fun n h1 h2 =>
        wp_value (v := .int .i64 n) (by simp [execOp, ho, resolve, hcal, invoke, builtin, hta, hq, h1]) (Post.same g h2 (.v _))
      split at h
      · rename_i s hu
        have := rep_v hxr
        exact fin s.size (len_run w (.inr ⟨hu, s, this, rfl⟩)) h
      · rename_i x' e hu
        split at h
        · rename_i hn
          rw [isNil_eq hn] at hxr
          have := rep_v hxr
          exact fin 0 (len_run w (.inl ⟨⟨e, hu⟩, none, 0, this⟩)) (by simpa using h)
        · split at h
          · rename_i s hs
            obtain ⟨A, cc, hv, _, _⟩ := seen_rep g.W hs hxr
            split at h
            · obtain ⟨A2, c2, hv2⟩ := view_val hxr
              exact fin _ (len_run w (.inl ⟨⟨e, hu⟩, A2, c2, hv2⟩)) h
            · exact fin s.xs.length (len_run w (.inl ⟨⟨e, hu⟩, A, cc, hv⟩)) h
          · cases h
      · cases h
    · cases h
  · -- append
    rename_i x y hargs
    split at h
    · rename_i t t' hts
      have hta : c.argTypes = #[t, t'] := Array.toList_inj.1 (by simpa using hts)
      obtain ⟨q, q', hq, hx, hy⟩ : ∃ q q', c.args = #[q, q'] ∧ σ.ev q = x ∧ σ.ev q' = y := by
        match hc : c.args.toList, hargs with
        | [q, q'], hargs =>
          refine ⟨q, q', Array.toList_inj.1 (by simpa using hc), ?_⟩
          simpa using hargs
      split at h
      · rename_i i hri
        obtain ⟨ie, z, hut, hie, hsz, hby, hz, hzo, hb16, hbpos⟩ := tyOf_row hri
        have hxr := g.ev q
        rw [hx] at hxr
        obtain ⟨β1, ⟨p1, p2, p3⟩, p4, p5, p6, p7⟩ := prom_good (P := P) (t := t) (x := x) (v := a.eval q) (σ := σ) (a := a) ⟨g.W, g.A, hxr⟩
        have hcase := prom_cases P t x σ
        generalize hp : St.prom P t x σ = p at *
        unfold appendP at h
        split at h
        · rename_i ai s' hpa
          split at h
          · rename_i s2 hadd
            split at h
            · rename_i hc
              obtain ⟨hse, hst⟩ := hc
              split at h
              · rename_i ys hys
                rcases br_some h with ⟨h1, h2⟩ | ⟨_, h2⟩
                · have hlim := of_decide_eq_true h1
                  obtain ⟨s, xs, v0, cells, rfl, hob, hb1, hbv, hown, hcs⟩ := appTo_rep p1 hpa p3
                  simp only at hse hst hys hlim h2
                  obtain ⟨ht', rfl⟩ := as_eq hys
                  have hyr : RepV w (okB cx β1 p.2.ob) β1 y (a.eval q') := by
                    have := g.ev q'
                    rw [hy] at this
                    exact this.mono (fun fl b hok hlt => ⟨p5 fl b hok hlt, rfl⟩) p4.ext
                  obtain ⟨sf, se, st, sx⟩ := s2
                  simp only at ht' hlim h2 hadd
                  subst ht'
                  simp only at hlim h2
                  obtain ⟨v1, w1, news, r1, r2, r3, r4, r5⟩ := append_main (ty := o.type) p1 hri hadd hyr (by rw [← hse, ← hst]; exact hown) (by exact hst) hlim
                  rw [← hse, ← hst] at r2
                  have heff : Eff 1 β σ.ob w w1 := ⟨r3.size, fun b hb ht => r3.block b hb fun e => ht (by
                    rw [own_blk hown] at e
                    rcases hcase with he | ⟨i0, he1, he2⟩
                    · subst he
                      have hbo : β[ai]? = some v0 := by
                        obtain ⟨_, _, v0', _, _, _, hb', _⟩ := appTo_rep g.W hpa hxr
                        have := p4.ext _ _ hb'
                        rw [hb1] at this
                        rw [Option.some.inj this]
                        exact hb'
                      exact ⟨ai, s, v0, hob, hbo, hbv b e.symm⟩
                    · rw [he1] at hxr
                      rw [rep_v hxr] at e
                      simp [blk] at e)⟩
                  have hres := append_res (fl2 := sf) (ys := sx) p1 p2 hob hb1 hbv hown hcs r2 r3 r4 r5
                  have hext := append_ext (s2 := ⟨s.fl && sf, s.e, s.t, xs ++ sx⟩) p1 hob hb1 hbv hown r2 r4
                  exact wp_value (v := v1) (by simp [execOp, ho, resolve, hcal, invoke, builtin, hta, hq, r1]) ⟨_, _, _, _, h2, rfl, hres, heff, (p4.mono (Nat.zero_le _)).trans (hext.mono (Nat.zero_le _))⟩
                · cases h2
              · cases h
            · cases h
          · cases h
        · cases h
      · cases h
    · cases h
  · -- min
    rename_i k x k' y hargs
    split at h
    · rename_i hk
      subst hk
      obtain ⟨q, q', hq, hx, hy⟩ := args2 hargs
      have hxr := g.ev q
      have hyr := g.ev q'
      rw [hx] at hxr
      rw [hy] at hyr
      exact wp_value (v := .int k (if y < x then y else x)) (by simp [execOp, ho, resolve, hcal, invoke, builtin, hq, rep_v hxr, rep_v hyr, Builtin.min_, Builtin.min2]) (Post.same g h (.v _))
    · cases h
  · -- max
    rename_i k x k' y hargs
    split at h
    · rename_i hk
      subst hk
      obtain ⟨q, q', hq, hx, hy⟩ := args2 hargs
      have hxr := g.ev q
      have hyr := g.ev q'
      rw [hx] at hxr
      rw [hy] at hyr
      exact wp_value (v := .int k (if y > x then y else x)) (by simp [execOp, ho, resolve, hcal, invoke, builtin, hq, rep_v hxr, rep_v hyr, Builtin.max_, Builtin.max2]) (Post.same g h (.v _))
    · cases h
  · cases h

end Go.Ev
