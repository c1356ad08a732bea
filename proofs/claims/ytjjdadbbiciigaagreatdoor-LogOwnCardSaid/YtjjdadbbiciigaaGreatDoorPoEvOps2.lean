/- Each operation of the abstract machine is one of the machine's: the single ones. -/
import Derived.Test.YtjjdadbbiciigaaGreatDoorPoEvOps
namespace Go.Ev
set_option linter.unusedVariables false
set_option linter.unusedSimpArgs false
set_option linter.unusedSectionVars false
variable [tG : TabG]

variable {P : Program} {R : Type} {cx : Cx} {β β' : List Value} {ob ob' : List O} {w w' : World} {σ σ' : St} {a a' : Act}

theorem run_isAgg {t : TypeId} {b : Bool} (h : isAggT P t = some b) (w : World) : (isAgg t).run P w = .ok b w := by
 unfold isAggT at h
 unfold isAgg
 rw [Sem.run_bind]
 cases hu : P.underlying t with
 |none => rw [hu] at h; cases h
 |some d =>
  rw [hu] at h
  rw [run_underlying hu w]
  cases d <;> simp at h <;> subst h <;> rfl

theorem run_sizeT {t : TypeId} {n : Nat} (h : sizeT P t = some n) (w : World) : (sizeOf t).run P w = .ok n w := by
 unfold sizeT at h
 cases hi : P.info? t with
 |none => rw [hi] at h; cases h
 |some i =>
  rw [hi] at h
  simp at h
  subst h
  simp [sizeOf, typeInfo, hi]

theorem load_ok {ok : Bool -> Nat -> Prop} {t : TypeId} {l : List AV} {vs : List Value} {ad : Addr} (hl : RepL w ok β l vs)
  {K : AV -> Option R} {r : R} (h : loadC P t l K = some r) : ∃ y v, K y = some r ∧ (∀ w', (∀ (k : Nat) (u : Value), vs[k]? = some u -> w'.cell? (ad.add k) = some u) -> (loadVar t ad).run P w' = .ok v w') ∧ RepV w ok β y v := by
 unfold loadC at h
 split at h
 ·rename_i n ha hn
  split at h
  ·rename_i hle
   have hlen : (vs.take n).length = n := by rw [List.length_take, ← hl.1]; omega
   refine ⟨_, .agg (vs.take n).toArray, h, fun w' hcell => ?_, .agg _ _ (by rw [hlen, List.length_take]; omega) fun i x y hx hy => ?_⟩
   ·have hld : (loadCells ad (vs.take n).length).run P w' = .ok (vs.take n).toArray w' := run_loadCells_list (P := P) w' ad (vs.take n) fun j v hv => hcell j v (by
     rw [List.getElem?_take] at hv
     split at hv
     ·exact hv
     ·cases hv)
    rw [hlen] at hld
    simp [loadVar, Sem.run_bind, run_isAgg ha w', run_sizeT hn w', hld]
   ·rw [List.getElem?_take] at hx hy
    split at hx
    ·rename_i hlt
     rw [if_pos hlt] at hy
     exact hl.2 i x y hx hy
    ·cases hx
  ·cases h
 ·rename_i ha
  split at h
  ·rename_i c cs
   cases vs with
   |nil => simp [RepL] at hl
   |cons v vs =>
    refine ⟨c, v, h, fun w' hcell => ?_, hl.2 0 c v rfl rfl⟩
    have hc := hcell 0 v rfl
    have e : ad.add 0 = ad := rfl
    rw [e] at hc
    simp [loadVar, Sem.run_bind, run_isAgg ha w', hc]
  ·cases h
 ·cases h

theorem rei_rep {ok : Bool -> Nat -> Prop} {fl : Bool} : ∀ {t : Ty} {x : t.S} {cs : List Value}, Cel w (ok fl) t x cs -> RepL w ok β (rei fl t x) cs
 |.int k, n, _, h => by rw [h]; exact RepL.consts _ _ _ [.int k n]
 |.bool, b, _, h => by rw [h]; exact RepL.consts _ _ _ [.bool b]
 |.str, s, _, h => by rw [h]; exact RepL.consts _ _ _ [.string s]
 |.sl e t, xs, cs, ⟨A, c, h, hc, hr⟩ => by
  rw [h]
  refine ⟨rfl, fun i x y hx hy => ?_⟩
  have hi : i = 0 := by
   have := get_lt hy
   simp at this
   exact this
  subst hi
  simp [rei] at hx hy
  subst hx hy
  exact .rd ⟨fl, e, t, xs⟩ A c hc hr
 |.pr a b, x, cs, ⟨c1, c2, h, h1, h2⟩ => by
  rw [h]
  have r1 := rei_rep h1
  have r2 := rei_rep h2
  refine ⟨by simp [rei, r1.1, r2.1], fun i x y hx hy => ?_⟩
  simp only [rei] at hx
  rw [List.getElem?_append] at hx hy
  rw [r1.1] at hx
  split at hx
  ·rename_i hlt
   rw [if_pos hlt] at hy
   exact r1.2 i x y hx hy
  ·rename_i hlt
   rw [if_neg hlt] at hy
   exact r2.2 _ x y hx hy

theorem CelO.nr : ∀ {t : Ty} {x : t.S} {cs us : List Value}, CelO w t x cs us -> us.length = t.nr
 |.int _, _, _, _, h => by rw [h.2]; rfl
 |.bool, _, _, _, h => by rw [h.2]; rfl
 |.str, _, _, _, h => by rw [h.2]; rfl
 |.sl _ _, _, _, _, ⟨_, u, _, h, _⟩ => by rw [h]; rfl
 |.pr _ _, _, _, _, ⟨c1, c2, u1, u2, _, h, h1, h2⟩ => by rw [h, List.length_append, h1.nr, h2.nr]; rfl

theorem own_sl {s : Sq} {v : Value} (h : OwnEl w s v) : ∃ A c, v = .slice A s.xs.length c := by
 obtain ⟨cells, ho, _⟩ := h
 rcases ho.2 with ⟨rfl, h0⟩ | ⟨g, cap, cur, rfl, _⟩
 ·exact ⟨_, _, by rw [h0]⟩
 ·exact ⟨_, _, rfl⟩

theorem reiF_rep {ok : Bool -> Nat -> Prop} {i j nr : Nat} {y : Value} {vs : List Value} (hb : β[i]? = some (.tuple (y :: vs).toArray)) : ∀ {t : Ty} {x : t.S} {cs us : List Value} (r : Nat), CelO w t x cs us →
  (∀ k u, us[k]? = some u -> vs[j * nr + (r + k)]? = some u) -> RepL w ok β (reiF i j nr t r x) cs
 |.int k, n, _, _, _, h, _ => by rw [h.1]; exact RepL.consts _ _ _ [.int k n]
 |.bool, b, _, _, _, h, _ => by rw [h.1]; exact RepL.consts _ _ _ [.bool b]
 |.str, s, _, _, _, h, _ => by rw [h.1]; exact RepL.consts _ _ _ [.string s]
 |.sl e t, xs, cs, us, r, ⟨_, u, h1, h2, h3⟩, hu => by
  obtain ⟨A, c, rfl⟩ := own_sl h3
  rw [h1]
  refine ⟨rfl, fun k x z hx hz => ?_⟩
  have hk : k = 0 := by
   have := get_lt hz
   simp at this
   exact this
  subst hk
  simp [reiF] at hx hz
  subst hx hz
  exact .fin i j nr r A _ c y vs hb (hu 0 _ (by rw [h2]; rfl))
 |.pr a b, x, cs, us, r, ⟨c1, c2, u1, u2, h, hu2, h1, h2⟩, hu => by
  rw [h]
  have r1 := reiF_rep (ok := ok) hb r h1 fun k u hk => hu k u (by rw [hu2, List.getElem?_append_left (get_lt hk)]; exact hk)
  have r2 := reiF_rep (ok := ok) hb (r + a.nr) h2 fun k u hk => by
   have := hu (a.nr + k) u (by rw [hu2, List.getElem?_append_right (by rw [h1.nr]; omega), h1.nr, Nat.add_sub_cancel_left]; exact hk)
   rwa [← Nat.add_assoc r] at this
  refine ⟨by simp [reiF, r1.1, r2.1], fun i x y hx hy => ?_⟩
  simp only [reiF] at hx
  rw [List.getElem?_append] at hx hy
  rw [r1.1] at hx
  split at hx
  ·rename_i hlt
   rw [if_pos hlt] at hy
   exact r1.2 i x y hx hy
  ·rename_i hlt
   rw [if_neg hlt] at hy
   exact r2.2 _ x y hx hy

theorem RepL.drop {ok : Bool -> Nat -> Prop} {l : List AV} {vs : List Value} (h : RepL w ok β l vs) (n : Nat) : RepL w ok β (l.drop n) (vs.drop n) :=
 ⟨by simp [h.1], fun i x y hx hy => h.2 (n + i) x y (by simpa using hx) (by simpa using hy)⟩

theorem cell_at {g j : Nat} : (⟨g, 0, none⟩ : Addr).add j = ⟨g, j, none⟩ := by unfold Addr.add; split <;> simp_all
theorem add_at {g i j : Nat} : (⟨g, i, none⟩ : Addr).add j = ⟨g, i + j, none⟩ := by unfold Addr.add; split <;> simp_all

theorem touch.live {lvl b : Nat} (h : touch lvl β ob b) : LiveB β ob b := by
 match lvl, h with
 |0, h => exact h.elim
 |1, ⟨i, s, x, h1, hs, h2, h3⟩ => exact ⟨i, _, x, h1, O.live_of_rowish hs, h2, h3⟩
 |_ + 2, h => exact h

theorem RepL.take {ok : Bool -> Nat -> Prop} {l : List AV} {vs : List Value} (h : RepL w ok β l vs) (n : Nat) : RepL w ok β (l.take n) (vs.take n) :=
 ⟨by simp [h.1], fun i x y hx hy => by
  rw [List.getElem?_take] at hx hy
  split at hx
  ·rename_i hi
   rw [if_pos hi] at hy
   exact h.2 i x y hx hy
  ·cases hx⟩

theorem intsOf_rep {ok : Bool -> Nat -> Prop} {k : IntKind} : ∀ (l : List AV) (vs : List Value), RepL w ok β l vs -> ∀ ns, intsOf k l = some ns -> vs = ns.map (Value.int k)
 |[], vs, h, ns, hn => by
  obtain rfl := Option.some.inj hn
  exact List.eq_nil_of_length_eq_zero h.1.symm
 |x :: l, [], h, ns, hn => by simp [RepL] at h
 |x :: l, v :: vs, h, ns, hn => by
  simp only [intsOf] at hn
  split at hn
  ·rename_i q m
   split at hn
   ·rename_i hq
    split at hn
    ·rename_i ns' hns
     obtain rfl := Option.some.inj hn
     have hv := rep_v (h.2 0 _ _ rfl rfl)
     have ih := intsOf_rep l vs ⟨by simpa using h.1, fun i y z hy hz => h.2 (i + 1) y z (by simpa using hy) (by simpa using hz)⟩ ns' hns
     subst hq
     rw [hv, ih]
     rfl
    ·cases hn
   ·cases hn
  ·cases hn

def Ld (P : Program) (cx : Cx) (K : AV -> St -> Option R) (r : R) (o : Oper) (β : List Value) (σ : St) (a : Act) (w : World) : Prop :=
 ∃ x v, (K x σ = some r ∧ RepV w (okB cx β σ.ob) β x v) ∧ (execOp a.eval o).run P w = .ok (.value v) w ∧
  ∀ lvl, quietOp lvl o σ = true -> ∀ w' : World, (∀ b, b < w.heap.size -> ¬ touch lvl β σ.ob b -> w'.heap[b]? = w.heap[b]?) -> (execOp a.eval o).run P w' = .ok (.value v) w'

theorem ld_load {o : Oper} {K : AV -> St -> Option R} {r : R} {Γ : FuncId -> Option Sum} {t : TypeId} {x : Operand} (ho : o.op = .load t x) (g : Good cx β σ a w) (h : evOp P Γ o σ K = some r) :
  Ld P cx K r o β σ a w := by
 have fin : ∀ {l : List AV} {vs : List Value} {ad : Addr}, RepL w (okB cx β σ.ob) β l vs -> (∀ (k : Nat) (u : Value), vs[k]? = some u -> w.cell? (ad.add k) = some u) -> (∀ lvl, quietOp lvl o σ = true -> ¬ touch lvl β σ.ob ad.block) -> a.eval x = .pointer (some ad) →
   (loadC P t l fun y => K y σ) = some r -> Ld P cx K r o β σ a w := by
  intro l vs ad hl hcell hq hx h
  obtain ⟨y, v, h1, h2, h3⟩ := load_ok (ad := ad) hl h
  have hrun : ∀ w', (∀ (k : Nat) (u : Value), vs[k]? = some u -> w'.cell? (ad.add k) = some u) -> (execOp a.eval o).run P w' = .ok (.value v) w' := fun w' hc => by
   simp [execOp, ho, hx, Instr.loadAt, Instr.sureAddr, h2 w' hc]
  refine ⟨y, v, ⟨h1, h3⟩, hrun w hcell, fun lvl hl w' hw' => hrun w' fun k u hu => ?_⟩
  rw [← hcell k u hu]
  refine World.cell?_of_block ?_
  rw [add_block]
  have hlt := World.block_lt_of_cell? w _ (hcell k u hu)
  rw [add_block] at hlt
  exact hw' _ hlt (hq lvl hl)
 have hx := g.ev x
 generalize hv : a.eval x = v at hx
 simp only [evOp, ho] at h
 split at h
 ·rename_i i j he
  rw [he] at hx
  split at h
  ·rename_i ty cs hob
   cases hx with
   |ptr i o gg hb =>
    obtain ⟨g', vs, hp, hg, hr⟩ := g.W.obj i _ _ hob hb
    obtain rfl : gg = g' := by simpa using hp
    refine fin (hr.drop j) (fun k u hu => ?_) (fun lvl hq ht => ?_) hv h
    ·rw [add_at, cell_of_row w gg (j + k) _ _ _ hg]
     simpa using hu
    ·simp [quietOp, ho, he] at hq
     match lvl, hq, ht with
     |1, _, ⟨k, s, y, k1, ks, k2, k3⟩ =>
      have := g.W.sep i k _ _ _ _ gg hob k1 rfl (O.live_of_rowish ks) hb k2 rfl k3
      subst this
      rw [hob] at k1
      obtain rfl := Option.some.inj k1
      cases ks
  ·cases h
 ·rename_i s j k he
  rw [he] at hx
  cases hx with
  |pel s j k ad hj hr =>
   obtain ⟨ad', e, hok, hc⟩ := hr (by omega)
   obtain rfl := Option.some.inj e
   obtain ⟨cs, ⟨y, hy, hcel⟩, hcell⟩ := hc j hj
   have hyd : s.xs.getD j s.t.dflt = y := by rw [List.getD_eq_getElem?_getD, hy]; rfl
   rw [hyd] at h
   refine fin ((rei_rep hcel).drop k) (fun k' u hu => ?_) (fun lvl _ ht => ?_) hv h
   ·rw [add_add]
    have := hcell (k + k') u (by simpa using hu)
    rw [← this]
    congr 2
    omega
   ·rw [add_block] at ht
    exact hok.1 ht.live
 ·rename_i i z j k he
  rw [he] at hx
  split at h
  ·rename_i s hs
   split at h
   ·rename_i hz
    subst hz
    cases hx with
    |poe i z j k gg n c hj hb =>
     obtain ⟨A, c', e, hc', hrow⟩ := own_slice g.W hs hb
     obtain ⟨rfl, rfl, rfl⟩ := Value.slice.inj e
     obtain ⟨ad', e, hok, hc⟩ := hrow (fun _ => True) (fun _ _ _ => trivial) (fun _ _ => trivial) (by omega)
     obtain rfl := Option.some.inj e
     have hin : ∀ y cs, s.xs[j]? = some y -> Cel w (fun _ => True) s.t y cs -> True := fun _ _ _ _ => trivial
     -- the element, told with its own footprints
     have hel : ∃ cs y, s.xs[j]? = some y ∧ Cel w (okB cx β σ.ob s.fl) s.t y cs ∧ ∀ (k : Nat) (u : Value), cs[k]? = some u -> w.cell? ((⟨gg, 0, none⟩ : Addr).add (j * s.t.sz + k)) = some u := by
      rcases seen_own hs with hob | hob
      ·obtain ⟨cells, hown, _, hc2⟩ := g.W.obj i _ _ hob hb
       obtain ⟨cs, h1, h2⟩ := hc2 j s.xs[j] (List.getElem?_eq_getElem hj)
       exact ⟨cs, _, List.getElem?_eq_getElem hj, h1, fun k u hu => hown.cells rfl _ u (h2 k u hu)⟩
      ·obtain ⟨A2, c2, e2, _, hr2⟩ := g.W.obj i _ _ hob hb
       obtain ⟨rfl, _, rfl⟩ := Value.slice.inj e2
       obtain ⟨ad3, e3, _, hc3⟩ := hr2 (by omega)
       obtain rfl := Option.some.inj e3
       obtain ⟨cs, ⟨y, hy, hcel⟩, hcell⟩ := hc3 j hj
       exact ⟨cs, y, hy, hcel, hcell⟩
     obtain ⟨cs, y, hy, hcel, hcell⟩ := hel
     have hyd : s.xs.getD j s.t.dflt = y := by rw [List.getD_eq_getElem?_getD, hy]; rfl
     rw [hyd] at h
     refine fin ((rei_rep hcel).drop k) (fun k' u hu => ?_) (fun lvl hq ht => ?_) hv h
     ·have := hcell (k + k') u (by simpa using hu)
      rw [cell_at] at this
      rw [add_at, ← this]
      congr 2
      omega
     ·simp [quietOp, ho, he] at hq
      subst hq
      exact ht
   ·cases h
  ·cases h
 ·rename_i i j he
  rw [he] at hx
  split at h
  ·rename_i s hob
   cases hx with
   |pns i j gg off n c vs hb hj =>
    obtain ⟨y', vs', e, hl, _, hoff, _⟩ := g.W.obj i _ _ hob hb
    have e := List.cons.inj (by simpa using e : Value.slice (some ⟨gg, off, none⟩) n c :: vs = y' :: vs')
    obtain ⟨rfl, rfl⟩ := e
    rcases hoff with ⟨e, _⟩ | ⟨g2, off2, cap, cur, e, hg, hcap, _, hcur, hce⟩
    ·cases e
    ·obtain ⟨e1, rfl, rfl⟩ := Value.slice.inj e
     have e1 : gg = g2 ∧ off = off2 := by simpa using e1
     obtain ⟨rfl, rfl⟩ := e1
     have hget : vs[j]? = some vs[j] := List.getElem?_eq_getElem hj
     refine fin (l := [.inn i j]) (vs := [vs[j]]) (ad := ⟨gg, off + j, none⟩) ⟨rfl, fun k x u hx hu => ?_⟩ (fun k u hu => ?_) (fun lvl hq ht => ?_) hv h
     ·have hk : k = 0 := by
       have := get_lt hx
       simp at this
       exact this
      subst hk
      simp at hx hu
      subst hx hu
      exact .inn i j _ _ vs hb hget
     ·have hk : k = 0 := by
       have := get_lt hu
       simp at this
       exact this
      subst hk
      simp at hu
      subst hu
      simp only [Addr.add, if_true]
      rw [hg.cell]
      have := hce j _ hget
      simpa using this
     ·simp [quietOp, ho, he] at hq
      subst hq
      exact ht
  ·cases h
 ·rename_i i j z l o' he
  rw [he] at hx
  split at h
  ·rename_i q hs
   split at h
   ·rename_i hz
    subst hz
    obtain ⟨s, hob, hq1⟩ := innAt_some hs
    cases hx with
    |pin i j z l o gg n c y vs hb hj hk =>
     obtain ⟨⟨cells, hown, hc⟩, hf⟩ := inn_own g.W hob hq1 (RepV.inn (w := w) (ok := okB cx β σ.ob) i j _ y vs hb hj)
     have hn : n = q.xs.length := by
      rcases hown.2 with ⟨e, _⟩ | ⟨_, _, _, e, _⟩
      ·cases e
      ·exact (Value.slice.inj e).2.1
     have hk' : l < q.xs.length := by rw [← hn]; exact hk
     obtain ⟨cs, h1, h2⟩ := hc l q.xs[l] (List.getElem?_eq_getElem hk')
     have hyd : q.xs.getD l q.t.dflt = q.xs[l] := by rw [List.getD_eq_getElem?_getD, List.getElem?_eq_getElem hk']; rfl
     rw [hyd] at h
     have hcel : Cel w (okB cx β σ.ob q.fl) q.t q.xs[l] cs := h1.of_flat hf
     refine fin ((rei_rep hcel).drop o') (fun k' u hu => ?_) (fun lvl hq ht => ?_) hv h
     ·have := hown.cells rfl _ u (h2 (o' + k') u (by simpa using hu))
      rw [cell_at] at this
      rw [add_at, ← this]
      congr 2
      omega
     ·simp [quietOp, ho, he] at hq
      subst hq
      exact ht
   ·cases h
  ·cases h
 ·rename_i i z j l he
  rw [he] at hx
  split at h
  ·rename_i s n hob
   split at h
   ·rename_i hz
    subst hz
    rcases br_some h with ⟨hle, h⟩ | ⟨_, h⟩
    ·cases hx with
     |pfs _ _ _ _ gg n' c vs hb hj =>
      obtain ⟨y', vs', cells, e, hown, hlen, hin, hc, _⟩ := g.W.obj i _ _ hob hb
      have e := List.cons.inj (by simpa using e : Value.slice (some ⟨gg, 0, none⟩) n' c :: vs = y' :: vs')
      obtain ⟨rfl, rfl⟩ := e
      have hn : n' = s.xs.length := by
       rcases hown.2 with ⟨e, _⟩ | ⟨_, _, _, e, _⟩
       ·cases e
       ·exact (Value.slice.inj e).2.1
      subst hn
      have hce := hc j s.xs[j] (List.getElem?_eq_getElem hj) (Nat.le_of_ble_eq_true hle)
      have hyd : s.xs.getD j s.t.dflt = s.xs[j] := by rw [List.getD_eq_getElem?_getD, List.getElem?_eq_getElem hj]; rfl
      rw [hyd] at h
      refine fin ((reiF_rep hb 0 hce fun k u hu => ?_).drop l) (fun k u hu => ?_) (fun lvl hq ht => ?_) hv h
      ·rw [Nat.zero_add]
       exact sub_get hu
      ·have := hown.cells rfl _ u (sub_get (by simpa using hu : ((cells.drop (j * s.t.sz)).take s.t.sz)[l + k]? = some u))
       rw [cell_at] at this
       rw [add_at, ← this]
       congr 2
       omega
      ·simp [quietOp, ho, he] at hq
       subst hq
       exact ht
    ·cases h
   ·cases h
  ·cases h
 ·rename_i i j k n l he
  rw [he] at hx
  split at h
  ·rename_i ty cs hob
   split at h
   ·rename_i ns hns
    split at h
    ·rename_i hlen
     cases hx with
     |pbk i o k n l gg hb hl =>
      obtain ⟨g', vs, hp, hg, hr⟩ := g.W.obj i _ _ hob hb
      obtain rfl : gg = g' := by simpa using hp
      have hv1 := intsOf_rep _ _ ((hr.drop j).take n) ns hns
      have hlv : l < ns.length := by omega
      have hcell : vs[j + l]? = some (.int k (ns.getD l 0)) := by
       have h1 : ((vs.drop j).take n)[l]? = some (.int k (ns.getD l 0)) := by
        rw [hv1, List.getElem?_map, List.getElem?_eq_getElem hlv, List.getD_eq_getElem?_getD, List.getElem?_eq_getElem hlv]
        rfl
       rw [List.getElem?_take, if_pos hl, List.getElem?_drop] at h1
       exact h1
      refine fin (l := [.v (.int k (ns.getD l 0))]) (vs := [.int k (ns.getD l 0)]) (ad := ⟨gg, j + l, none⟩) ⟨rfl, fun q x u hx hu => ?_⟩ (fun q u hu => ?_) (fun lvl hq ht => ?_) hv h
      ·have hq : q = 0 := by
        have := get_lt hx
        simp at this
        exact this
       subst hq
       simp at hx hu
       subst hx hu
       exact .v _
      ·have hq : q = 0 := by
        have := get_lt hu
        simp at this
        exact this
       subst hq
       simp at hu
       subst hu
       simp only [Addr.add, if_true]
       rw [cell_of_row w gg (j + l) _ _ _ hg]
       simpa using hcell
      ·simp [quietOp, ho, he] at hq
       match lvl, hq, ht with
       |1, _, ⟨k, s, y, k1, ks, k2, k3⟩ =>
        have := g.W.sep i k _ _ _ _ gg hob k1 rfl (O.live_of_rowish ks) hb k2 rfl k3
        subst this
        rw [hob] at k1
        obtain rfl := Option.some.inj k1
        cases ks
    ·cases h
   ·cases h
  ·cases h
 ·cases h

theorem wp_load {o : Oper} {K : AV -> St -> Option R} {r : R} {Q : Exit -> Act -> World -> Prop} {Γ : FuncId -> Option Sum} {t : TypeId} {x : Operand} (ho : o.op = .load t x) (g : Good cx β σ a w) (h : evOp P Γ o σ K = some r) (lvl : Nat) :
  o.wp P a w (Post cx K r o lvl β σ.ob a w) Q := by
 obtain ⟨x, v, ⟨h1, h2⟩, h3, _⟩ := ld_load ho g h
 exact wp_value h3 (Post.same g h1 h2)

end Go.Ev
