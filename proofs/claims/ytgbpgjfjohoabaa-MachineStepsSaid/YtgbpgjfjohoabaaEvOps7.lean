/- Each operation of the abstract machine is one of the machine's: length, append. -/
import Derived.Test.YtgbpgjfjohoabaaEvOps6
namespace Go.Ev
set_option linter.unusedVariables false
set_option linter.unusedSimpArgs false

variable {P : Program} {R : Type} {cx : Cx} {β β' : List Value} {ob ob' : List O} {w w' : World} {σ σ' : St} {a a' : Act}
variable {o : Oper} {K : AV → St → Option R} {r : R} {Q : Exit → Act → World → Prop} {Γ : FuncId → Option Sum}

/-- What a slice's value shows, with the footprints of its elements, and its own block. -/
theorem seen_rep (hW : WRep cx β ob w) {x : AV} {v : Value} {s : Sq} (h : seen ob x = some s) (hr : RepV w (okB cx β ob) β x v) :
    ∃ A c, v = .slice A s.xs.length c ∧ s.xs.length ≤ c ∧ (∀ hpos : 0 < s.xs.length, ∃ ad, A = some ad ∧ ∀ j, j < s.xs.length → ∃ cs y, s.xs[j]? = some y ∧ Cel w (okB cx β ob s.fl) s.t y cs ∧ ∀ (k : Nat) (u : Value), cs[k]? = some u → w.cell? (ad.add (j * s.t.sz + k)) = some u) := by
  cases x <;> first | (simp [seen] at h; done) | skip
  · rename_i s'
    obtain rfl := Option.some.inj h
    cases hr with
    | rd _ A c hc hrow =>
      refine ⟨A, c, rfl, hc, fun hpos => ?_⟩
      obtain ⟨ad, rfl, _, hel⟩ := hrow hpos
      exact ⟨ad, rfl, fun j hj => let ⟨cs, ⟨y, hy, h1⟩, h2⟩ := hel j hj; ⟨cs, y, hy, h1, h2⟩⟩
  · rename_i i
    cases hr with
    | own _ _ hb =>
      rcases seen_own h with hob | hob
      · obtain ⟨cells, hown, _, hc⟩ := hW.obj i _ _ hob hb
        rcases hown.2 with ⟨rfl, hn⟩ | ⟨g, cap, cur, rfl, _, hg, hncap, _⟩
        · exact ⟨none, 0, by rw [hn], by omega, fun hpos => by omega⟩
        · refine ⟨_, cap, rfl, hncap, fun hpos => ⟨⟨g, 0, none⟩, rfl, fun j hj => ?_⟩⟩
          obtain ⟨cs, h1, h2⟩ := hc j s.xs[j] (List.getElem?_eq_getElem hj)
          exact ⟨cs, _, List.getElem?_eq_getElem hj, h1, fun k u hu => hown.cells rfl _ u (h2 k u hu)⟩
      · obtain ⟨A, c, rfl, hc, hrow⟩ := hW.obj i _ _ hob hb
        refine ⟨A, c, rfl, hc, fun hpos => ?_⟩
        obtain ⟨ad, rfl, _, hel⟩ := hrow hpos
        exact ⟨ad, rfl, fun j hj => let ⟨cs, ⟨y, hy, h1⟩, h2⟩ := hel j hj; ⟨cs, y, hy, h1, h2⟩⟩

theorem len_run {t ty : TypeId} {v : Value} {n : Nat} (w : World) (h : (∃ e, P.underlying t = some (.slice e)) ∧ (∃ A c, v = .slice A n c) ∨ (P.underlying t = some .string ∧ ∃ s : ByteArray, v = .string s ∧ n = s.size)) :
    (Builtin.len_ #[t] ty #[v]).run P w = .ok (.int .i64 n) w := by
  rcases h with ⟨⟨e, hu⟩, A, c, rfl⟩ | ⟨hu, s, rfl, rfl⟩
  · simp [Builtin.len_, run_underlying hu, goInt]
  · simp [Builtin.len_, run_underlying hu, goInt]

theorem run_append_none {t ty e : TypeId} {i : TypeInfo} {v : Value} {n sz c : Nat} {xs : List Value} (ht : P.underlying t = some (.slice e)) (hi : P.info? e = some i) (hown : w.ownsRow 0 e sz v n xs) :
    (Builtin.append_ #[t, t] ty #[v, .slice none 0 c]).run P w = .ok v w := by
  rcases hown.2 with ⟨rfl, rfl⟩ | ⟨g, cap, cur, rfl, _, _, hnc, _⟩
  · simp [Builtin.append_, run_underlying ht, sizeOf, typeInfo, hi, Builtin.lenOf, Builtin.firstCells]
  · simp [Builtin.append_, run_underlying ht, sizeOf, typeInfo, hi, Builtin.lenOf, Builtin.firstCells, hnc, storeCells]

/-- The cells of a row that is seen, in one list. -/
theorem all_cells {ok : Nat → Prop} {t : Ty} {xs : List t.S} {ad : Addr} : ∀ n, n ≤ xs.length → (∀ j, j < xs.length → ∃ cs y, xs[j]? = some y ∧ Cel w ok t y cs ∧ ∀ (k : Nat) (u : Value), cs[k]? = some u → w.cell? (ad.add (j * t.sz + k)) = some u) →
    ∃ news : List Value, news.length = n * t.sz ∧ (∀ (k : Nat) (u : Value), news[k]? = some u → w.cell? (ad.add k) = some u) ∧ (∀ u ∈ news, u.oneCell' = true) ∧
      ∀ j y, j < n → xs[j]? = some y → ∃ cs, Cel w ok t y cs ∧ ∀ (k : Nat) (u : Value), cs[k]? = some u → news[j * t.sz + k]? = some u
  | 0, _, _ => ⟨[], by simp, fun k u hu => by simp at hu, fun u hu => by simp at hu, fun j y hj => by omega⟩
  | n + 1, hn, hel => by
    obtain ⟨news, h1, h2, h3, h4⟩ := all_cells n (by omega) hel
    obtain ⟨cs, y, hy, hc, hcell⟩ := hel n (by omega)
    refine ⟨news ++ cs, by rw [List.length_append, h1, hc.len, Nat.succ_mul], fun k u hu => ?_, fun u hu => ?_, fun j z hj hz => ?_⟩
    · rw [List.getElem?_append, h1] at hu
      split at hu
      · exact h2 k u hu
      · rename_i hk
        have := hcell _ u hu
        rw [show n * t.sz + (k - n * t.sz) = k from by omega] at this
        exact this
    · rcases List.mem_append.1 hu with hu | hu
      · exact h3 u hu
      · exact hc.one u hu
    · rcases Nat.lt_or_ge j n with hlt | hge
      · obtain ⟨cs', h5, h6⟩ := h4 j z hlt hz
        refine ⟨cs', h5, fun k u hu => ?_⟩
        have := h6 k u hu
        rw [List.getElem?_append, if_pos (get_lt this)]
        exact this
      · obtain rfl : j = n := by omega
        rw [hy] at hz
        obtain rfl := Option.some.inj hz
        refine ⟨cs, hc, fun k u hu => ?_⟩
        rw [List.getElem?_append, h1, if_neg (by omega)]
        rw [show j * t.sz + k - j * t.sz = k from by omega]
        exact hu


theorem own_blk {v : Value} {n sz : Nat} {e : TypeId} {xs : List Value} (h : w.ownsRow 0 e sz v n xs) : v.ownBlock = blk v := by
  rcases h.2 with ⟨rfl, _⟩ | ⟨g, cap, cur, rfl, _⟩ <;> rfl

/-- A row is appended to: the old one is gone, the new one takes its place. -/
theorem append_res {i : Nat} {s : Sq} {v v' : Value} {fr : List AV} {ys : List s.t.S} {fl2 : Bool} {cells news : List Value} (hW : WRep cx β ob w) (hA : ARep w (okB cx β ob) β fr a)
    (ho : ob[i]? = some (.row s)) (hv : β[i]? = some v) (hown : w.ownsRow 0 s.e s.t.sz v s.xs.length cells)
    (hown' : w'.ownsRow 0 s.e s.t.sz v' (s.xs.length + ys.length) (cells ++ news)) (hg : w.grownBy w' v.ownBlock) (hat : v'.ownBlock = v.ownBlock ∨ v'.ownBlock = some w.heap.size)
    (hnews : ∀ j y, ys[j]? = some y → ∃ cs, Cel w (okB cx β ob fl2) s.t y cs ∧ ∀ (k : Nat) (u : Value), cs[k]? = some u → news[j * s.t.sz + k]? = some u) :
    Res cx (β ++ [v']) ⟨fr, ob.set i .gone ++ [.row ⟨s.fl && fl2, s.e, s.t, s.xs ++ ys⟩]⟩ (.own ob.length) a v' w' := by
  rw [own_blk hown', own_blk hown] at hat
  rw [own_blk hown] at hg
  have hi : i < ob.length := get_lt ho
  have hlt : ∀ b, blk v = some b → b < w.heap.size := fun b hb => (hW.obj i _ v ho hv).lt rfl hb
  have hlen : β.length = (ob.set i .gone).length := by simp [hW.len]
  have hgone : ∀ b, LiveB β (ob.set i .gone) b → LiveB β ob b := by
    rintro b ⟨j, o1, x1, h1, l1, k1, b1⟩
    rcases mem_set h1 with ⟨_, h1⟩ | ⟨rfl, rfl, _⟩
    · exact ⟨j, o1, x1, h1, l1, k1, b1⟩
    · simp [O.live] at l1
  have hlive : ∀ b, b < w.heap.size → LiveB (β ++ [v']) (ob.set i .gone ++ [.row ⟨s.fl && fl2, s.e, s.t, s.xs ++ ys⟩]) b → LiveB β ob b := fun b hb hl => by
    rcases live_snoc hlen hl with hl | ⟨_, hx⟩
    · exact hgone b hl
    · rcases hat with h | h
      · rw [h] at hx
        exact ⟨i, _, v, ho, rfl, hv, hx⟩
      · rw [h] at hx
        have := Option.some.inj hx
        omega
  have hm : ∀ fl b, okB cx β ob fl b → b < w.heap.size → okB cx (β ++ [v']) (ob.set i .gone ++ [.row ⟨s.fl && fl2, s.e, s.t, s.xs ++ ys⟩]) fl b ∧ w'.heap[b]? = w.heap[b]? := fun fl b hok hb =>
    ⟨okB_of hok (hlive b hb), hg.block b hb fun e => hok.1 ⟨i, _, v, ho, rfl, hv, e.symm⟩⟩
  have hβ : ∀ (j : Nat) (x : Value), β[j]? = some x → (β ++ [v'])[j]? = some x := fun _ _ h => get_snoc h
  obtain ⟨cells0, hown0, hfr, hc⟩ := hW.obj i _ v ho hv
  have hcells : cells0 = cells := by
    rcases hown.2 with ⟨rfl, hn⟩ | ⟨g, cap, cur, rfl, _, hgg, _, _, _, ht⟩
    · have h1 := hown.1
      have h2 := hown0.1
      rw [hn] at h1 h2
      have e1 : cells = [] := List.eq_nil_of_length_eq_zero (by omega)
      have e2 : cells0 = [] := List.eq_nil_of_length_eq_zero (by omega)
      rw [e1, e2]
    · rcases hown0.2 with ⟨he, _⟩ | ⟨g', cap', cur', he, _, hgg', _, _, _, ht'⟩
      · cases he
      · obtain ⟨e1, _, _⟩ := Value.slice.inj he
        have e1 : g = g' := by simpa using e1
        subst e1
        rw [hgg] at hgg'
        obtain ⟨rfl, _, _⟩ := Obj.cells.inj (Option.some.inj hgg')
        rw [← ht, ← ht']
  subst hcells
  have hnewO : RepO cx w' (okB cx (β ++ [v']) (ob.set i .gone ++ [.row ⟨s.fl && fl2, s.e, s.t, s.xs ++ ys⟩])) (β ++ [v']) (.row ⟨s.fl && fl2, s.e, s.t, s.xs ++ ys⟩) v' := by
    refine ⟨cells0 ++ news, by simpa using hown', fun hfl b hb => ?_, fun j y hy => ?_⟩
    · rcases hat with h | h
      · rw [h] at hb
        exact hfr (Bool.and_eq_true_iff.1 hfl).1 b hb
      · rw [h] at hb
        obtain rfl := Option.some.inj hb
        exact hW.hs
    · have w1 : (s.fl && fl2) = true → s.fl = true := fun h => (Bool.and_eq_true_iff.1 h).1
      have w2 : (s.fl && fl2) = true → fl2 = true := fun h => (Bool.and_eq_true_iff.1 h).2
      have hy' : (s.xs ++ ys)[j]? = some y := hy
      rw [List.getElem?_append] at hy'
      split at hy'
      · obtain ⟨cs, h1, h2⟩ := hc j y hy'
        refine ⟨cs, (h1.weaken w1).mono (hm _), fun k u hu => ?_⟩
        have := h2 k u hu
        show (cells0 ++ news)[j * s.t.sz + k]? = some u
        rw [List.getElem?_append, if_pos (get_lt this)]
        exact this
      · rename_i hj
        obtain ⟨cs, h1, h2⟩ := hnews _ y hy'
        refine ⟨cs, (h1.weaken w2).mono (hm _), fun k u hu => ?_⟩
        have := h2 k u hu
        show (cells0 ++ news)[j * s.t.sz + k]? = some u
        have hcl := hown.1
        have hjz : s.xs.length * s.t.sz ≤ j * s.t.sz := Nat.mul_le_mul_right _ (by omega)
        rw [List.getElem?_append, if_neg (by omega), hcl, ← this, Nat.sub_mul]
        congr 1
        omega
  refine ⟨⟨Nat.le_trans hW.hs hg.size, fun b hb hp => ?_, hg.os.trans hW.os, hg.tape.trans hW.tape, hg.output.trans hW.out, by simp [hW.len], fun j x hx => hβ j x (hW.pre j x hx), ?_, ?_, ?_⟩, hA.mono hm hβ, .own _ _ ?_⟩
  · rw [hg.block b (Nat.lt_of_lt_of_le hb hW.hs) (fun e => ?_), hW.keep b hb hp]
    rcases hW.own i _ v b ho rfl hv e.symm with h1 | h1
    · exact hp h1
    · omega
  · intro j o1 x1 h1 k1
    rcases both_snoc hlen h1 k1 with ⟨p1, q1⟩ | ⟨_, rfl, rfl⟩
    · rcases mem_set p1 with ⟨hne, p1⟩ | ⟨rfl, rfl, _⟩
      · refine (hW.obj j o1 x1 p1 q1).mono hm hβ fun hl b hb => hg.block b ((hW.obj j o1 x1 p1 q1).lt hl hb) fun e => hne (hW.sep j i o1 _ x1 v b p1 ho hl rfl q1 hv hb e.symm)
      · trivial
    · exact hnewO
  · intro j k o1 o2 x1 x2 b h1 h2 l1 l2 k1 k2 b1 b2
    have key : ∀ (j : Nat) (o1 : O) (x1 : Value), (ob.set i .gone)[j]? = some o1 → β[j]? = some x1 → o1.live = true → blk x1 = some b → blk v' = some b → False := fun j o1 x1 p1 q1 l1 b1 b2 => by
      rcases mem_set p1 with ⟨hne, p1⟩ | ⟨rfl, rfl, _⟩
      · rcases hat with h | h
        · rw [h] at b2
          exact hne (hW.sep j i o1 _ x1 v b p1 ho l1 rfl q1 hv b1 b2)
        · rw [h] at b2
          have := Option.some.inj b2
          have := (hW.obj j o1 x1 p1 q1).lt l1 b1
          omega
      · simp [O.live] at l1
    rcases both_snoc hlen h1 k1 with ⟨p1, q1⟩ | ⟨e1, rfl, rfl⟩ <;> rcases both_snoc hlen h2 k2 with ⟨p2, q2⟩ | ⟨e2, rfl, rfl⟩
    · rcases mem_set p1 with ⟨_, p1⟩ | ⟨rfl, rfl, _⟩
      · rcases mem_set p2 with ⟨_, p2⟩ | ⟨rfl, rfl, _⟩
        · exact hW.sep j k o1 o2 x1 x2 b p1 p2 l1 l2 q1 q2 b1 b2
        · simp [O.live] at l2
      · simp [O.live] at l1
    · exact (key j o1 x1 p1 q1 l1 b1 b2).elim
    · exact (key k o2 x2 p2 q2 l2 b2 b1).elim
    · omega
  · intro j o1 x1 b h1 l1 k1 b1
    rcases both_snoc hlen h1 k1 with ⟨p1, q1⟩ | ⟨_, rfl, rfl⟩
    · rcases mem_set p1 with ⟨_, p1⟩ | ⟨rfl, rfl, _⟩
      · exact hW.own j o1 x1 b p1 l1 q1 b1
      · simp [O.live] at l1
    · rcases hat with h | h
      · rw [h] at b1
        exact hW.own i _ v b ho rfl hv b1
      · rw [h] at b1
        obtain rfl := Option.some.inj b1
        exact .inr hW.hs
  · rw [← hW.len]
    simp


theorem append_ext {i : Nat} {s s2 : Sq} {v v' : Value} {n2 : Nat} {cells cells' : List Value} {sz : Nat} {e : TypeId} (hW : WRep cx β ob w) (ho : ob[i]? = some (.row s)) (hv : β[i]? = some v) (hown : w.ownsRow 0 s.e s.t.sz v s.xs.length cells)
    (hown' : w'.ownsRow 0 e sz v' n2 cells') (hat : v'.ownBlock = v.ownBlock ∨ v'.ownBlock = some w.heap.size) : Ext 0 β ob w (β ++ [v']) (ob.set i .gone ++ [.row s2]) := by
  rw [own_blk hown', own_blk hown] at hat
  have hlen : β.length = (ob.set i .gone).length := by simp [hW.len]
  refine ⟨fun _ _ h => get_snoc h, fun l _ b hb ht => ?_⟩
  have hnew : blk v' = some b → blk v = some b := fun h => by
    rcases hat with h' | h'
    · rw [← h']
      exact h
    · rw [h'] at h
      have := Option.some.inj h
      omega
  match l, ht with
  | 0, ht => exact ht
  | 1, ht =>
    obtain ⟨j, q, y, h1, h2, h3⟩ := ht
    rcases both_snoc hlen h1 h2 with ⟨k1, k2⟩ | ⟨_, k1, k2⟩
    · rcases mem_set k1 with ⟨_, k1⟩ | ⟨_, k1, _⟩
      · exact ⟨j, q, y, k1, k2, h3⟩
      · cases k1
    · subst k2
      exact ⟨i, s, v, ho, hv, hnew h3⟩
  | l + 2, ht =>
    rcases live_snoc hlen ht with ⟨j, q, y, h1, h2, h3, h4⟩ | ⟨_, h⟩
    · rcases mem_set h1 with ⟨_, k1⟩ | ⟨_, k1, _⟩
      · exact ⟨j, q, y, k1, h2, h3, h4⟩
      · subst k1
        simp [O.live] at h2
    · exact ⟨i, _, v, ho, rfl, hv, hnew h⟩

theorem prom_cases (P : Program) (t : TypeId) (x : AV) (σ : St) : St.prom P t x σ = (x, σ) ∨ ∃ i : RowI, x = .v (.slice none 0 0) ∧ St.prom P t x σ = (.own σ.ob.length, σ.new (.row ⟨true, i.e, i.t, []⟩)) := by
  unfold St.prom
  split
  · rename_i hn
    cases hr : rowI P t with
    | none => exact .inl rfl
    | some i => exact .inr ⟨i, isNil_eq hn, rfl⟩
  · exact .inl rfl

theorem pu_len {c : Call} (ho : o.op = .call c) (hcal : c.callee = .builtin .len) (g : Good cx β σ a w) (h : builtinOp P .len c.argTypes.toList (c.args.toList.map σ.ev) σ K = some r) :
    Pu P cx K r o β σ a w := by
  unfold builtinOp at h
  split at h
  · rename_i x _ hargs
    split at h
    · rename_i t hts
      have hta : c.argTypes = #[t] := Array.toList_inj.1 (by simpa using hts)
      obtain ⟨q, hq, hx⟩ : ∃ q, c.args = #[q] ∧ σ.ev q = x := by
        match hc : c.args.toList, hargs with
        | [q], hargs =>
          refine ⟨q, Array.toList_inj.1 (by simpa using hc), ?_⟩
          simpa using hargs
      have hxr := g.ev q
      rw [hx] at hxr
      have fin : ∀ n : Nat, (∀ w, (Builtin.len_ #[t] o.type #[a.eval q]).run P w = .ok (.int .i64 n) w) → K (.v (.int .i64 n)) σ = some r → Pu P cx K r o β σ a w := fun n h1 h2 =>
        pu_mk (v := .int .i64 n) (fun w => by simp [execOp, ho, resolve, hcal, invoke, builtin, hta, hq, h1 w]) ⟨h2, .v _⟩
      split at h
      · rename_i s hu
        have := rep_v hxr
        exact fin s.size (fun w => len_run w (.inr ⟨hu, s, this, rfl⟩)) h
      · rename_i x' e hu
        split at h
        · rename_i hn
          rw [isNil_eq hn] at hxr
          have := rep_v hxr
          exact fin 0 (fun w => len_run w (.inl ⟨⟨e, hu⟩, none, 0, this⟩)) (by simpa using h)
        · split at h
          · rename_i s hs
            obtain ⟨A, cc, hv, _, _⟩ := seen_rep g.W hs hxr
            exact fin s.xs.length (fun w => len_run w (.inl ⟨⟨e, hu⟩, A, cc, hv⟩)) h
          · cases h
      · cases h
    · cases h
  · rename_i hb _
    first | cases hb | (rename_i hb2 _; cases hb2)
  · cases h

theorem wp_builtin {b : Builtin} {c : Call} (ho : o.op = .call c) (hcal : c.callee = .builtin b) (g : Good cx β σ a w) (h : builtinOp P b c.argTypes.toList (c.args.toList.map σ.ev) σ K = some r) :
    Goal P cx K r o (bLvl b) β σ a w Q := by
  unfold builtinOp at h
  split at h
  · -- len
    rename_i x hargs
    split at h
    · rename_i t hts
      have hta : c.argTypes = #[t] := Array.toList_inj.1 (by simpa using hts)
      obtain ⟨q, hq, hx⟩ : ∃ q, c.args = #[q] ∧ σ.ev q = x := by
        match hc : c.args.toList, hargs with
        | [q], hargs =>
          refine ⟨q, Array.toList_inj.1 (by simpa using hc), ?_⟩
          simpa using hargs
      have hxr := g.ev q
      rw [hx] at hxr
      have fin : ∀ n : Nat, (Builtin.len_ #[t] o.type #[a.eval q]).run P w = .ok (.int .i64 n) w → K (.v (.int .i64 n)) σ = some r → Goal P cx K r o 0 β σ a w Q := fun n h1 h2 =>
        wp_value (v := .int .i64 n) (by simp [execOp, ho, resolve, hcal, invoke, builtin, hta, hq, h1]) (Post.same g h2 (.v _))
      split at h
      · rename_i s hu
        have := rep_v hxr
        exact fin s.size (len_run w (.inr ⟨hu, s, this, rfl⟩)) h
      · rename_i x' e hu
        split at h
        · rename_i hn
          rw [isNil_eq hn] at hxr
          have := rep_v hxr
          exact fin 0 (len_run w (.inl ⟨⟨e, hu⟩, none, 0, this⟩)) (by simpa using h)
        · split at h
          · rename_i s hs
            obtain ⟨A, cc, hv, _, _⟩ := seen_rep g.W hs hxr
            exact fin s.xs.length (len_run w (.inl ⟨⟨e, hu⟩, A, cc, hv⟩)) h
          · cases h
      · cases h
    · cases h
  · -- append
    rename_i x y hargs
    split at h
    · rename_i t t' hts
      have hta : c.argTypes = #[t, t'] := Array.toList_inj.1 (by simpa using hts)
      obtain ⟨q, q', hq, hx, hy⟩ : ∃ q q', c.args = #[q, q'] ∧ σ.ev q = x ∧ σ.ev q' = y := by
        match hc : c.args.toList, hargs with
        | [q, q'], hargs =>
          refine ⟨q, q', Array.toList_inj.1 (by simpa using hc), ?_⟩
          simpa using hargs
      split at h
      · rename_i i hri
        obtain ⟨ie, z, hut, hie, hsz, hby, hz, hzo, hb16, hbpos⟩ := tyOf_row hri
        have hxr := g.ev q
        rw [hx] at hxr
        obtain ⟨β1, ⟨p1, p2, p3⟩, p4, p5, p6, p7⟩ := prom_good (P := P) (t := t) (x := x) (v := a.eval q) (σ := σ) (a := a) ⟨g.W, g.A, hxr⟩
        have hcase := prom_cases P t x σ
        generalize hp : St.prom P t x σ = p at *
        unfold appendP at h
        split at h
        · rename_i ai hpa
          split at h
          · rename_i s hob
            split at h
            · rename_i s' hs'
              split at h
              · rename_i hc
                obtain ⟨htt, hse, hst⟩ := hc
                obtain rfl : t' = t := by simpa using htt
                split at h
                · rename_i ys hys
                  rcases br_some h with ⟨h1, h2⟩ | ⟨_, h2⟩
                  · have hlim := of_decide_eq_true h1
                    rw [hpa] at p3
                    cases p3 with
                    | own _ _ hb1 =>
                      obtain ⟨cells, hown, _, _⟩ := p1.obj _ _ _ hob hb1
                      have hyr : RepV w (okB cx β1 p.2.ob) β1 y (a.eval q') := by
                        have := g.ev q'
                        rw [hy] at this
                        exact this.mono (fun fl b hok hlt => ⟨p5 fl b hok hlt, rfl⟩) p4.ext
                      obtain ⟨A, cc, hv', hcc, hrow⟩ := seen_rep p1 hs' hyr
                      obtain ⟨ht', rfl⟩ := as_eq hys
                      -- what may have been written
                      have heff : ∀ {w1 : World}, w.grownBy w1 (a.eval q).ownBlock → Eff 1 β σ.ob w w1 := fun hg => ⟨hg.size, fun b hb ht => hg.block b hb fun e => ht (by
                        rw [own_blk hown] at e
                        rcases hcase with he | ⟨i0, he1, he2⟩
                        · subst he
                          have hbo : β[ai]? = some (a.eval q) := by
                            simp at hpa
                            rw [hpa] at hxr
                            cases hxr with
                            | own _ _ hb => exact hb
                          exact ⟨ai, s, _, hob, hbo, e.symm⟩
                        · rw [he1] at hxr
                          rw [rep_v hxr] at e
                          simp [blk] at e)⟩
                      have main : ∃ v1 w1, (Builtin.append_ #[t', t'] o.type #[a.eval q, a.eval q']).run P w = .ok v1 w1 ∧
                          Res cx (β1 ++ [v1]) ⟨p.2.fr, p.2.ob.set ai .gone ++ [.row ⟨s.fl && s'.fl, s.e, s.t, s.xs ++ (ht' ▸ s'.xs)⟩]⟩ (.own p.2.ob.length) a v1 w1 ∧ w.grownBy w1 (a.eval q).ownBlock ∧ Ext 0 β1 p.2.ob w (β1 ++ [v1]) (p.2.ob.set ai .gone ++ [.row ⟨s.fl && s'.fl, s.e, s.t, s.xs ++ (ht' ▸ s'.xs)⟩]) := by
                        obtain ⟨sf, se, st, sx⟩ := s'
                        simp only at ht' hv' hcc hrow hlim hs'
                        subst ht'
                        simp only at hlim ⊢
                        rw [hv']
                        have hnone : ∀ (hA : A = none), sx.length = 0 := fun hA => by
                          rcases Nat.eq_zero_or_pos sx.length with h0 | h0
                          · exact h0
                          · obtain ⟨ad, he, _⟩ := hrow h0
                            rw [hA] at he
                            cases he
                        have hnews : ∃ news : List Value, news.length = sx.length * s.t.sz ∧ (∀ ad, A = some ad → ∀ (k : Nat) (u : Value), news[k]? = some u → w.cell? (ad.add k) = some u) ∧ (∀ u ∈ news, u.oneCell' = true) ∧
                            ∀ j y, sx[j]? = some y → ∃ cs, Cel w (okB cx β1 p.2.ob sf) s.t y cs ∧ ∀ (k : Nat) (u : Value), cs[k]? = some u → news[j * s.t.sz + k]? = some u := by
                          rcases Nat.eq_zero_or_pos sx.length with h0 | h0
                          · refine ⟨[], by simp [h0], fun _ _ k u hu => by simp at hu, fun u hu => by simp at hu, fun j y hy => ?_⟩
                            have := get_lt hy
                            omega
                          · obtain ⟨ad, hA, hel⟩ := hrow h0
                            obtain ⟨news, n1, n2, n3, n4⟩ := all_cells sx.length (Nat.le_refl _) hel
                            refine ⟨news, n1, fun ad' he => ?_, n3, fun j y hy => n4 j y (get_lt hy) hy⟩
                            rw [hA] at he
                            obtain rfl := Option.some.inj he
                            exact n2
                        obtain ⟨news, n1, n2, n3, n4⟩ := hnews
                        have hzl : z.cells.size = s.t.sz := by rw [hst]; simpa using (zero_cel (w := w) (ok := okB cx β σ.ob true) i.t z.cells.toList hzo).len
                        cases hA : A with
                        | none =>
                          have h0 := hnone hA
                          have hsx : sx = [] := List.eq_nil_of_length_eq_zero h0
                          rw [h0]
                          refine ⟨_, _, run_append_none (by rw [hse]; exact hut) (by rw [hse]; exact hie) hown, ?_, ⟨rfl, rfl, rfl, Nat.le_refl _, fun _ _ _ => rfl⟩, append_ext p1 hob hb1 hown hown (.inl rfl)⟩
                          have hn0 : news = [] := List.eq_nil_of_length_eq_zero (by rw [n1, h0]; simp)
                          exact append_res p1 p2 hob hb1 hown (by rw [hn0, h0]; simpa using hown) ⟨rfl, rfl, rfl, Nat.le_refl _, fun _ _ _ => rfl⟩ (.inl rfl) n4
                        | some ad =>
                          have hb0 : (s.xs.length + sx.length) * i.bytes ≤ 140737488355328 := hlim
                          obtain ⟨v1, w1, r1, r2, r3, _, r5⟩ := run_append_own_at (P := P) w 0 t' o.type s.e ie z s.t.sz i.bytes (by rw [hse]; exact hut) (by rw [hse]; exact hie) hz (by rw [hst]; exact hsz) hby hzl s.t.sz_pos _ _ _ hown ad sx.length cc news n1 (n2 ad hA) n3 (by
                            have h1 : (s.xs.length + sx.length) * 1 ≤ (s.xs.length + sx.length) * i.bytes := Nat.mul_le_mul_left _ hbpos
                            unfold maxLen
                            omega) hb0 (Nat.zero_le _)
                          exact ⟨v1, w1, r1, append_res p1 p2 hob hb1 hown r2 r3 r5 n4, r3, append_ext p1 hob hb1 hown r2 r5⟩
                      obtain ⟨v1, w1, r1, r2, r3, r4⟩ := main
                      exact wp_value (v := v1) (by simp [execOp, ho, resolve, hcal, invoke, builtin, hta, hq, r1]) ⟨_, _, _, _, h2, rfl, r2, heff r3, (p4.mono (Nat.zero_le _)).trans (r4.mono (Nat.zero_le _))⟩
                  · cases h2
                · cases h
              · cases h
            · cases h
          · cases h
        · cases h
      · cases h
    · cases h
  · cases h

end Go.Ev
