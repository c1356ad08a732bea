/- Whole functions: their ends, straight code, rounds of loops over functions. -/
import Derived.Test.YtjjdadbbiciigaaGreatDoorTkEvDraw
import Derived.Scope
import Derived.RangeFuncIn
import Derived.RangeFuncRecord
namespace Go.Ev
set_option linter.unusedVariables false
set_option linter.unusedSimpArgs false
set_option linter.unusedSectionVars false
variable [tG : TabG] [lG : LoopG] [dG : DfG]

variable {P : Program} {R : Type} {cx : Cx} {β β' : List Value} {ob ob' : List O} {w w' : World} {σ σ' : St} {a a' : Act}
variable {o : Oper} {r : R} {Q : Exit -> Act -> World -> Prop} {Γ : FuncId -> Option Sum}

/-! ### Cleaning -/

theorem reach_pre (ob : List O) : ∀ (n : Nat) (todo acc : List Nat), ∃ l, reach ob n todo acc = acc ++ l
 |0, todo, acc => ⟨[], by cases todo <;> simp [reach]⟩
 |n + 1, [], acc => ⟨[], by simp [reach]⟩
 |n + 1, i :: todo, acc => by
  simp only [reach]
  split
  ·exact reach_pre ob n todo acc
  ·obtain ⟨l, h⟩ := reach_pre ob n _ (acc ++ [i])
   exact ⟨i :: l, h.trans (by simp)⟩

theorem roots_pre (ob : List O) (np : Nat) (todo : List Nat) {i : Nat} (h : i < np) : (roots ob np todo)[i]? = some i := by
 unfold roots
 obtain ⟨l, e⟩ := reach_pre ob 200 ((List.range np).flatMap (leadsAt ob) ++ todo) (List.range np)
 rw [e, List.getElem?_append, if_pos (by simpa using h), List.getElem?_range h]

theorem roots_nodup (ob : List O) (np : Nat) (todo : List Nat) : (roots ob np todo).Nodup := reach_nodup _ _ _ _ List.nodup_range

theorem clean_good {l : List Nat} (hn : l.Nodup) (hp : ∀ i, i < cx.b0.length -> l[i]? = some i) (hW : WRep cx β ob w) :
  WRep cx (l.map fun i => β.getD i undef) (pick ob (idx l) l) w ∧ (∀ (i j : Nat) (x : Value), idx l i = some j -> β[i]? = some x -> (l.map fun i => β.getD i undef)[j]? = some x) ∧
  ∀ fl b, okB cx β ob fl b -> okB cx (l.map fun i => β.getD i undef) (pick ob (idx l) l) fl b := by
 have hf : ∀ (i j : Nat) (x : Value), idx l i = some j -> β[i]? = some x -> (l.map fun i => β.getD i undef)[j]? = some x := by
  intro i j x h hx
  have := idx_some h
  rw [List.getElem?_map, this]
  simp [List.getD_eq_getElem?_getD, hx]
 -- each object that stays
 have hob1 : ∀ (j : Nat) (o' : O) (x' : Value), (pick ob (idx l) l)[j]? = some o' -> (l.map fun i => β.getD i undef)[j]? = some x' -> o' = .gone ∨ ∃ (i : Nat) (o : O), l[j]? = some i ∧ ob[i]? = some o ∧ β[i]? = some x' ∧ o' = renO (idx l) o := by
  intro j o' x' h hx
  obtain ⟨i, hi, h1⟩ := get_map h
  obtain ⟨i', hi', h2⟩ := get_map hx
  rw [hi] at hi'
  obtain rfl := Option.some.inj hi'
  cases hob : ob[i]? with
  |none =>
   rw [hob] at h1
   exact .inl h1.symm
  |some o =>
   rw [hob] at h1
   have hlt : i < β.length := by rw [hW.len]; exact get_lt hob
   refine .inr ⟨i, o, hi, hob, ?_, h1.symm⟩
   rw [List.getD_eq_getElem?_getD, List.getElem?_eq_getElem hlt] at h2
   rw [List.getElem?_eq_getElem hlt, ← h2]
   rfl
 have hlive : ∀ b, LiveB (l.map fun i => β.getD i undef) (pick ob (idx l) l) b -> LiveB β ob b := by
  rintro b ⟨j, o', x', h1, h2, h3, h4⟩
  rcases hob1 j o' x' h1 h3 with rfl | ⟨i, o, k1, k2, k3, rfl⟩
  ·cases h2
  ·exact ⟨i, o, x', k2, by exact live_ren h2, k3, h4⟩
 have hok : ∀ fl b, okB cx β ob fl b -> okB cx (l.map fun i => β.getD i undef) (pick ob (idx l) l) fl b :=
  fun fl b h => ⟨fun hl => h.1 (hlive b hl), h.2⟩
 refine ⟨⟨hW.hs, hW.keep, hW.os, hW.tape, hW.out, by simp [pick], fun i x hx => ?_, ?_, ?_, ?_, hW.tab⟩, hf, hok⟩
 ·have h1 := hp i (get_lt hx)
  rw [List.getElem?_map, h1]
  simp [List.getD_eq_getElem?_getD, hW.pre i x hx]
 ·intro j o' x' h1 h2
  rcases hob1 j o' x' h1 h2 with rfl | ⟨i, o, k1, k2, k3, rfl⟩
  ·trivial
  ·exact RepO.ren hf (fun fl b h _ => ⟨hok fl b h, rfl⟩) (Nat.le_refl _) (fun _ _ _ => rfl) (hW.obj i o x' k2 k3)
 ·intro j k o1 o2 x1 x2 b h1 h2 l1 l2 k1 k2 b1 b2
  rcases hob1 j o1 x1 h1 k1 with rfl | ⟨i, o, p1, p2, p3, rfl⟩
  ·cases l1
  ·rcases hob1 k o2 x2 h2 k2 with rfl | ⟨i', o', q1, q2, q3, rfl⟩
   ·cases l2
   ·have := hW.sep i i' o o' x1 x2 b p2 q2 (live_ren l1) (live_ren l2) p3 q3 b1 b2
    subst this
    exact nodup_get hn p1 q1
 ·intro j o' x' b h1 h2 h3 h4
  rcases hob1 j o' x' h1 h3 with rfl | ⟨i, o, p1, p2, p3, rfl⟩
  ·cases h2
  ·exact hW.own i o x' b p2 (live_ren h2) p3 h4

theorem Good.clean {np : Nat} (hp : cx.b0.length ≤ np) (g : Good cx β σ a w) (keep : List Nat) : ∃ β', Good cx β' (σ.clean np keep) a w := by
 unfold St.clean
 dsimp only
 generalize hl : roots σ.ob np ((σ.fr.mapIdx fun i x => if keep.contains i then x else AV.un).flatMap (leads 5)) = l
 obtain ⟨h1, h2, h3⟩ := clean_good (cx := cx) (β := β) (ob := σ.ob) (w := w) (l := l) (by rw [← hl]; exact roots_nodup _ _ _) (fun i hi => by rw [← hl]; exact roots_pre _ _ _ (Nat.lt_of_lt_of_le hi hp)) g.W
 refine ⟨_, h1, ⟨by simp [g.A.len], fun i x hx => ?_, g.A.def_⟩⟩
 obtain ⟨y, hy, rfl⟩ := get_map hx
 rw [List.getElem?_mapIdx] at hy
 cases hf : σ.fr[i]? with
 |none => rw [hf] at hy; cases hy
 |some z =>
  rw [hf] at hy
  simp only [Option.map_some, Option.some.injEq] at hy
  have hz := g.A.rep i z hf
  subst hy
  refine RepV.ren h2 (fun fl b h _ => ⟨h3 fl b h, rfl⟩) 5 _ _ ?_
  split
  ·exact hz
  ·exact .un _

/-! ### Results -/

theorem resAV_ok {rv : ResultVar} {x : AV} (g : Good cx β σ a w) (h : resAV P σ rv = some x) :
  ∃ v, (match rv with | .tmp t => pure (a.tmps.getD t undef) | .cell q t => do loadVar t (← asAddr (a.tmps.getD q undef)) : Sem Value).run P w = .ok v w ∧ RepV w (okB cx β σ.ob) β x v := by
 cases rv with
 |tmp t =>
  obtain rfl := Option.some.inj h
  exact ⟨_, rfl, g.ev (.tmp t)⟩
 |cell q t =>
  unfold resAV at h
  dsimp only at h
  have hq : RepV w (okB cx β σ.ob) β (σ.fr.getD q .un) (a.tmps.getD q undef) := g.ev (.tmp q)
  split at h
  ·rename_i i j he
   rw [he] at hq
   split at h
   ·rename_i ty cs hob
    generalize hv : a.tmps.getD q undef = v at hq
    cases hq with
    |ptr _ _ gg hb =>
     obtain ⟨g', vs, hp, hg, hr⟩ := g.W.obj i _ _ hob hb
     obtain rfl : gg = g' := by simpa using hp
     obtain ⟨y, v, h1, h2, h3⟩ := load_ok (P := P) (ad := ⟨gg, j, none⟩) (hr.drop j) h
     obtain rfl := Option.some.inj h1
     refine ⟨v, ?_, h3⟩
     have := h2 w fun k u hu => by
      rw [add_at, cell_of_row w gg (j + k) _ _ _ hg]
      simpa using hu
     show (do loadVar t (← asAddr (a.tmps.getD q undef)) : Sem Value).run P w = _
     rw [hv]
     simp [asAddr, this]
   ·cases h
  ·cases h

theorem resAVs_ok {g0 : ResultVar -> Sem Value} (g : Good cx β σ a w) (hg : ∀ rv x, resAV P σ rv = some x -> ∃ v, (g0 rv).run P w = .ok v w ∧ RepV w (okB cx β σ.ob) β x v) : ∀ (l : List ResultVar) (xs : List AV), resAVs P σ l = some xs →
  ∃ vs, (l.mapM g0).run P w = .ok vs w ∧ RepL w (okB cx β σ.ob) β xs vs
 |[], xs, h => by
  obtain rfl := Option.some.inj h
  exact ⟨[], rfl, rfl, fun i x y hx => by simp at hx⟩
 |rv :: l, xs, h => by
  simp only [resAVs] at h
  split at h
  ·rename_i x xs' h1 h2
   obtain rfl := Option.some.inj h
   obtain ⟨v, k1, k2⟩ := hg rv x h1
   obtain ⟨vs, k3, k4⟩ := resAVs_ok g hg l xs' h2
   refine ⟨v :: vs, ?_, by simp [k4.1], fun i y z hy hz => ?_⟩
   ·simp [List.mapM_cons, Sem.run_bind, k1, k3]
   ·cases i with
    |zero =>
     simp at hy hz
     subst hy hz
     exact k2
    |succ i => exact k4.2 i y z (by simpa using hy) (by simpa using hz)
  ·cases h

theorem promA_good {t : TypeId} {x : AV} {v : Value} (hW : WRep cx β σ.ob w) (hA : ARep w (okB cx β σ.ob) β σ.fr a) (hr : RepV w (okB cx β σ.ob) β x v) :
  ∃ β', WRep cx β' (promA P t x σ).2.ob w ∧ ARep w (okB cx β' (promA P t x σ).2.ob) β' (promA P t x σ).2.fr a ∧ RepV w (okB cx β' (promA P t x σ).2.ob) β' (promA P t x σ).1 v ∧
   (∀ (i : Nat) (x : Value), β[i]? = some x -> β'[i]? = some x) ∧ ∀ fl b, okB cx β σ.ob fl b -> b < w.heap.size -> okB cx β' (promA P t x σ).2.ob fl b := by
 unfold promA
 split
 ·rename_i l
  cases hr with
  |agg _ vs hl hc =>
   obtain ⟨β', h1, h2, h3, h4, h5, _, _⟩ := promL_good (P := P) (flatT P 12 t) l vs β σ hW hA ⟨hl, hc⟩
   exact ⟨β', h1, h2, .agg _ vs h3.1 h3.2, h4.ext, h5⟩
 ·rename_i cs
  obtain ⟨β', h1, h2, h3, h4, h5, _, _⟩ := promL_good (P := P) (flatT P 12 t) _ _ β σ hW hA (RepL.consts w (okB cx β σ.ob) β cs.toList)
  rw [rep_v hr]
  have e := RepV.agg (w := w) _ cs.toList h3.1 h3.2
  exact ⟨β', h1, h2, by simpa using e, h4.ext, h5⟩
 ·obtain ⟨β', ⟨h1, h2, h3⟩, h4, h5, _, _⟩ := prom_good (P := P) (t := t) (x := x) (v := v) (σ := σ) (a := a) ⟨hW, hA, hr⟩
  exact ⟨β', h1, h2, h3, h4.ext, h5⟩

theorem promAs_good : ∀ (ts : List TypeId) (xs : List AV) (vs : List Value) (β : List Value) (σ : St), WRep cx β σ.ob w -> ARep w (okB cx β σ.ob) β σ.fr a -> RepL w (okB cx β σ.ob) β xs vs →
  ∃ β', WRep cx β' (promAs P ts xs σ).2.ob w ∧ RepL w (okB cx β' (promAs P ts xs σ).2.ob) β' (promAs P ts xs σ).1 vs ∧
   (∀ (i : Nat) (x : Value), β[i]? = some x -> β'[i]? = some x) ∧ ∀ fl b, okB cx β σ.ob fl b -> b < w.heap.size -> okB cx β' (promAs P ts xs σ).2.ob fl b
 |[], xs, vs, β, σ, hW, hA, hr => by
  have e : promAs P [] xs σ = (xs, σ) := by cases xs <;> rfl
  rw [e]
  exact ⟨β, hW, hr, fun _ _ h => h, fun _ _ h _ => h⟩
 |t :: ts, [], vs, β, σ, hW, hA, hr => ⟨β, hW, hr, fun _ _ h => h, fun _ _ h _ => h⟩
 |t :: ts, x :: xs, [], β, σ, hW, hA, hr => by simp [RepL] at hr
 |t :: ts, x :: xs, v :: vs, β, σ, hW, hA, hr => by
  obtain ⟨β1, g1, g2, g3, g4, g5⟩ := promA_good (P := P) (t := t) hW hA (hr.2 0 x v rfl rfl)
  have hr1 : RepL w (okB cx β1 (promA P t x σ).2.ob) β1 xs vs := RepL.mono (w := w) (fun fl b h hb => ⟨g5 fl b h hb, rfl⟩) g4 ⟨by simpa using hr.1, fun i y z hy hz => hr.2 (i + 1) y z (by simpa using hy) (by simpa using hz)⟩
  obtain ⟨β2, h1, h2, h3, h4⟩ := promAs_good ts xs vs β1 _ g1 g2 hr1
  refine ⟨β2, h1, ⟨by simp [promAs, h2.1], fun i y z hy hz => ?_⟩, fun i y h => h3 i y (g4 i y h), fun fl b h hb => h4 fl b (g5 fl b h hb) hb⟩
  cases i with
  |zero =>
   simp only [promAs, List.getElem?_cons_zero, Option.some.injEq] at hy hz
   subst hy hz
   exact g3.mono (fun fl b h hb => ⟨h4 fl b h hb, rfl⟩) h3
  |succ i => exact h2.2 i y z (by simpa [promAs] using hy) (by simpa using hz)

def Done (P : Program) (cx : Cx) (fn : Func) (K : AV -> List O -> Option R) (r : R) (a : Act) (w : World) : Prop :=
 a.defers = DfG.dfs ∧ ∃ v x ob' β', (results fn a.tmps).run P w = .ok v w ∧ K x ob' = some r ∧ WRep cx β' ob' w ∧ RepV w (okB cx β' ob') β' x v

theorem finish_ok {fn : Func} {np : Nat} {K : AV -> List O -> Option R} (hp : cx.b0.length ≤ np) (g : Good cx β σ a w) (h : finish P fn np K σ = some r) : Done P cx fn K r a w := by
 unfold finish at h
 split at h
 ·rename_i xs hxs
  obtain ⟨vs, h1, h2⟩ := resAVs_ok g (fun rv x => resAV_ok g) fn.results.toList xs hxs
  dsimp only at h
  obtain ⟨β1, p1, p2, _, _⟩ := promAs_good (P := P) fn.resultTypes.toList xs vs β σ g.W g.A h2
  generalize promAs P fn.resultTypes.toList xs σ = p at h p1 p2
  obtain ⟨xs, σ⟩ := p
  dsimp only at h p1 p2
  generalize hx : one1 xs = x at h
  generalize hl : roots σ.ob np (leads 5 x) = l at h
  obtain ⟨k1, k2, k3⟩ := clean_good (cx := cx) (β := β1) (ob := σ.ob) (w := w) (l := l) (by rw [← hl]; exact roots_nodup _ _ _) (fun i hi => by rw [← hl]; exact roots_pre _ _ _ (Nat.lt_of_lt_of_le hi hp)) p1
  have hv : RepV w (okB cx β1 σ.ob) β1 x (if h : vs.toArray.size = 1 then vs.toArray[0] else .tuple vs.toArray) := by
   clear h1
   match xs, vs, p2, hx with
   |[], [], h2, hx =>
    subst hx
    exact .tup _ _ rfl fun i x y hx => by simp at hx
   |[y], [v], h2, hx =>
    subst hx
    exact h2.2 0 _ _ rfl rfl
   |y :: y' :: ys, v :: v' :: vs, h2, hx =>
    subst hx
    rw [dif_neg (by simp)]
    exact .tup _ _ h2.1 h2.2
   |[], _ :: _, h2, _ => simp [RepL] at h2
   |[_], [], h2, _ => simp [RepL] at h2
   |[_], _ :: _ :: _, h2, _ => simp [RepL] at h2
   |_ :: _ :: _, [], h2, _ => simp [RepL] at h2
   |_ :: _ :: _, [_], h2, _ => simp [RepL] at h2
  refine ⟨g.A.def_, _, _, _, _, ?_, h, k1, RepV.ren k2 (fun fl b h _ => ⟨k3 fl b h, rfl⟩) 5 x _ hv⟩
  have key : ∀ g0 : ResultVar -> Sem Value, (fn.results.toList.mapM g0).run P w = .ok vs w →
    (fn.results.mapM g0 >>= fun vs => (pure (if h : vs.size = 1 then vs[0] else .tuple vs) : Sem Value)).run P w = .ok (if h : vs.toArray.size = 1 then vs.toArray[0] else .tuple vs.toArray) w := by
   intro g0 h0
   rw [Array.mapM_eq_mapM_toList]
   simp [Sem.run_bind, h0]
  exact key _ h1
 ·cases h

/-! ### Code -/

theorem Good.drew (g : Good cx β σ a w) : Good cx β σ a { w with drawn := w.drawn + 1 } :=
 ⟨g.W.same (Same.drew w), ARep.mono (w := w) (fun _ _ h _ => ⟨h, rfl⟩) (fun _ _ h => h) g.A⟩

theorem region_sound {id : Nat} {ops : Array Oper} {draw : Bool} {K : St -> Option R} (hm : P.follows .mixedOrders = true) (hΓ : Right P Γ) (g : Good cx β σ a w) (h : evRegion P Γ ops draw σ K = some r) (b : Frame) (k : List Item) (cs : List Frame) :
  ∃ a' w', At cx K r a' w' ∧ Steps P (lone (b.atR a (.code (.region id ops draw) :: k)) cs w) (lone (b.atR a' k) cs w') := by
 cases draw with
 |false =>
  refine steps_region (T := At cx K r) ?_ b k cs
  have := evOps_sound (ops := ops.toList) hΓ ops.toList 0 β σ a w K (fun j => by simp) g h
  simpa [List.range_eq_range'] using this
 |true =>
  simp only [evRegion] at h
  split at h
  ·rename_i hs
   rw [Bool.and_eq_true] at hs
   obtain ⟨hs, hwi⟩ := hs
   rw [evDrawM_eq hwi, arr_zero] at h
   refine steps_region_any (T := At cx K r) (S := Held P Γ ops β σ.ob { w with drawn := w.drawn + 1 }) hm ?_ b k cs
   exact evDraw_sound (w0 := { w with drawn := w.drawn + 1 }) hΓ hs ops.size true _ β σ a _ K g.drew (by simp) (fun j o _ hj => by simp [Array.getElem?_replicate] at hj; split at hj <;> simp_all) ⟨Nat.le_refl _, fun _ _ _ => rfl⟩ (.refl _ _ _ _) (fun _ => ⟨rfl, rfl, rfl⟩) h
  ·cases h

theorem Good.know (g : Good cx β σ a w) {c : Operand} {b : Bool} (h : a.eval c = .bool b) : Good cx β (σ.know c b) a w := by
 unfold St.know
 split
 ·rename_i t
  refine ⟨g.W, ⟨by simp [St.put, g.A.len], fun i x hx => ?_, g.A.def_⟩⟩
  rcases mem_set hx with ⟨hne, hx⟩ | ⟨rfl, rfl, _⟩
  ·exact g.A.rep i x hx
  ·have e : a.tmps.getD i undef = .bool b := h
   show RepV w (okB cx β σ.ob) β (.v (.bool b)) (a.tmps.getD i undef)
   rw [e]
   exact .v _
 ·exact g

/-! ### Straight code -/

theorem exitTo_app {id : Nat} {tl : List Item} : ∀ {k k' : List Item}, exitTo id k = some k' -> exitTo id (k ++ tl) = some (k' ++ tl)
 |[], k', h => by simp [exitTo] at h
 |i :: k, k', h => by
  cases i with
  |inBlock id' =>
   simp only [exitTo, List.cons_append] at h ⊢
   split at h
   ·rename_i hi
    obtain rfl := Option.some.inj h
    rw [if_pos hi]
   ·rename_i hi
    rw [if_neg hi]
    exact exitTo_app h
  |_ =>
   simp only [exitTo, List.cons_append] at h ⊢
   exact exitTo_app h

def LeftAt (P : Program) (b : Frame) (cs : List Frame) (tl : List Item) (m : Machine) (n : Nat) (a : Act) (w : World) : Prop :=
 match n with
 |0 => Steps P m (lone (b.atR a tl) cs w)
 |1 => ∃ k, Steps P m (lone (b.atR a (.code .ret :: k)) cs w)
 |id + 2 => ∃ k, exitTo id k = none ∧ Steps P m (lone (b.atR a (.code (.exit id) :: (k ++ tl))) cs w)

theorem LeftAt.of_steps {b : Frame} {cs : List Frame} {tl : List Item} {m m' : Machine} {n : Nat} (h : Steps P m m') (h' : LeftAt P b cs tl m' n a w) : LeftAt P b cs tl m n a w := by
 match n, h' with
 |0, h' => exact h.trans h'
 |1, ⟨k, h'⟩ => exact ⟨k, h.trans h'⟩
 |id + 2, ⟨k, e, h'⟩ => exact ⟨k, e, h.trans h'⟩

theorem runR_sound {L : Nat -> St -> Option R} {b : Frame} {cs : List Frame} {tl : List Item} (hm : P.follows .mixedOrders = true) (hΓ : Right P Γ) :
  ∀ (s : Nat) (k : List Item) (β : List Value) (σ : St) (a : Act) (w : World), Good cx β σ a w -> runR P Γ L s k σ = some r →
   ∃ n a' w', (∃ β' σ', Good cx β' σ' a' w' ∧ L n σ' = some r) ∧ LeftAt P b cs tl (lone (b.atR a (k ++ tl)) cs w) n a' w'
 |0, k, β, σ, a, w, g, h => by simp [runR] at h
 |s + 1, [], β, σ, a, w, g, h => ⟨0, a, w, ⟨β, σ, g, by simpa [runR] using h⟩, .refl _ _⟩
 |s + 1, .inBlock id :: k, β, σ, a, w, g, h =>
  let ⟨n, a', w', h1, h2⟩ := runR_sound hm hΓ s k β σ a w g (by simpa [runR] using h)
  ⟨n, a', w', h1, .of_steps (.one stepR_inBlock) h2⟩
 |s + 1, .inScope id :: k, β, σ, a, w, g, h =>
  let ⟨n, a', w', h1, h2⟩ := runR_sound hm hΓ s k β σ a w g (by simpa [runR] using h)
  ⟨n, a', w', h1, .of_steps (.one (step_lone_go (by simp [stepG, stepG.exec, Frame.atR]))) h2⟩
 |s + 1, .inLoop c :: k, β, σ, a, w, g, h => by simp [runR] at h
 |s + 1, .code c :: k, β, σ, a, w, g, h => by
  have go : ∀ {k1 : List Item} {β1 : List Value} {σ1 : St} {a1 : Act} {w1 : World}, Good cx β1 σ1 a1 w1 -> runR P Γ L s k1 σ1 = some r -> Steps P (lone (b.atR a (.code c :: (k ++ tl))) cs w) (lone (b.atR a1 (k1 ++ tl)) cs w1) →
    ∃ n a' w', (∃ β' σ', Good cx β' σ' a' w' ∧ L n σ' = some r) ∧ LeftAt P b cs tl (lone (b.atR a (.code c :: k ++ tl)) cs w) n a' w' := fun g1 h1 hs =>
   let ⟨n, a', w', q1, q2⟩ := runR_sound hm hΓ s _ _ _ _ _ g1 h1
   ⟨n, a', w', q1, .of_steps hs q2⟩
  cases c with
  |skip => exact go g (by simpa [runR] using h) (.one stepR_skip)
  |region id ops draw =>
   simp only [runR] at h
   obtain ⟨a', w', ⟨β', σ', g', h'⟩, hs⟩ := region_sound (id := id) hm hΓ g h b (k ++ tl) cs
   exact go g' h' hs
  |seq x y => exact go (k1 := .code x :: .code y :: k) g (by simpa [runR] using h) (.one stepR_seq)
  |cond c x y =>
   simp only [runR] at h
   split at h
   ·rename_i t he
    have hc := g.ev c
    rw [he] at hc
    have hc := rep_v hc
    rcases br_some h with ⟨rfl, h⟩ | ⟨rfl, h⟩
    ·exact go (k1 := .code x :: k) (g.know hc) h (.one (stepR_cond hc))
    ·exact go (k1 := .code y :: k) (g.know hc) h (.one (stepR_cond hc))
   ·cases h
  |block id c => exact go (k1 := .code c :: .inBlock id :: k) g (by simpa [runR] using h) (.one stepR_block)
  |scope c => exact go (k1 := .code c :: .inScope c :: k) g (by simpa [runR] using h) (.one (step_lone_go (by simp [stepG, stepG.exec, Frame.atR])))
  |label l => exact go g (by simpa [runR] using h) (.one stepR_label)
  |exit id =>
   simp only [runR] at h
   split at h
   ·rename_i k' hk
    exact go g h (.one (stepR_exit (exitTo_app hk)))
   ·rename_i hk
    exact ⟨id + 2, a, w, ⟨β, σ, g, h⟩, k, hk, Steps.refl _ _⟩
  |ret => exact ⟨1, a, w, ⟨β, σ, g, by simpa [runR] using h⟩, k ++ tl, Steps.refl _ _⟩
  |_ => simp [runR] at h
 |s + 1, .call _ _ _ _ :: k, β, σ, a, w, g, h => by simp [runR] at h
 |s + 1, .extern _ _ :: k, β, σ, a, w, g, h => by simp [runR] at h
 |s + 1, .inRegion _ _ :: k, β, σ, a, w, g, h => by simp [runR] at h
 |s + 1, .inRangeFunc _ :: k, β, σ, a, w, g, h => by simp [runR] at h
 |s + 1, .endRangeFunc _ :: k, β, σ, a, w, g, h => by simp [runR] at h
 |s + 1, .beginRound :: k, β, σ, a, w, g, h => by simp [runR] at h

/-! ### A block that holds no cells changes -/

theorem RowAt.strong {ok Q : Nat -> Prop} {sz n : Nat} {A : Option Addr} {C C' : Nat -> List Value -> Prop} (hQ : ∀ (a : Addr) (u : Value), w.cell? a = some u -> Q a.block) (hC : ∀ j cs, C j cs -> C' j cs) (hlen : ∀ j cs, C j cs -> 0 < cs.length)
  (h : RowAt w ok sz n A C) : RowAt w (fun b => ok b ∧ Q b) sz n A C' := by
 intro hn
 obtain ⟨a, hA, hok, hc⟩ := h hn
 obtain ⟨cs, hcs, hcell⟩ := hc 0 hn
 have hp := hlen 0 cs hcs
 have hq := hQ _ _ (hcell 0 (cs[0]'hp) (List.getElem?_eq_getElem hp))
 rw [add_block] at hq
 exact ⟨a, hA, ⟨hok, hq⟩, fun j hj => let ⟨cs, h1, h2⟩ := hc j hj; ⟨cs, hC j cs h1, h2⟩⟩

theorem Cel.strong {ok Q : Nat -> Prop} (hQ : ∀ (a : Addr) (u : Value), w.cell? a = some u -> Q a.block) : ∀ {t : Ty} {x : t.S} {cs : List Value}, Cel w ok t x cs -> Cel w (fun b => ok b ∧ Q b) t x cs
 |.int _, _, _, h => h
 |.bool, _, _, h => h
 |.str, _, _, h => h
 |.sl _ t, _, _, ⟨A, c, h1, h2, h3⟩ => ⟨A, c, h1, h2, RowAt.strong hQ (fun _ _ ⟨x, hx, hc⟩ => ⟨x, hx, hc.strong hQ⟩) (fun _ _ ⟨_, _, hc⟩ => by rw [hc.len]; exact t.sz_pos) h3⟩
 |.pr _ _, _, _, ⟨c1, c2, h, h1, h2⟩ => ⟨c1, c2, h, h1.strong hQ, h2.strong hQ⟩

theorem RowR.strong {ok Q : Nat -> Prop} (hQ : ∀ (a : Addr) (u : Value), w.cell? a = some u -> Q a.block) {t : Ty} {xs : List t.S} {A : Option Addr} (h : RowR w ok t xs A) : RowR w (fun b => ok b ∧ Q b) t xs A :=
 RowAt.strong hQ (fun _ _ ⟨x, hx, hc⟩ => ⟨x, hx, hc.strong hQ⟩) (fun _ _ ⟨_, _, hc⟩ => by rw [hc.len]; exact t.sz_pos) h

theorem RepV.strong {ok : Bool -> Nat -> Prop} {Q : Nat -> Prop} (hQ : ∀ (a : Addr) (u : Value), w.cell? a = some u -> Q a.block) {x : AV} {y : Value} (h : RepV w ok β x y) : RepV w (fun fl b => ok fl b ∧ Q b) β x y := by
 induction h with
 |un x => exact .un x
 |v x => exact .v x
 |agg l vs hl _ ih => exact .agg l vs hl ih
 |tup l vs hl _ ih => exact .tup l vs hl ih
 |rd s A c hc h => exact .rd s A c hc (RowR.strong hQ h)
 |own i x h => exact .own i x h
 |view i z lo n A0 L c0 A h hn hL hA => exact .view i z lo n A0 L c0 A h hn hL hA
 |ptr i o g h => exact .ptr i o g h
 |pel s j k a hj h => exact .pel s j k a hj (RowR.strong hQ h)
 |poe i z j k g n c hj h => exact .poe i z j k g n c hj h
 |clo f l vs hl _ ih => exact .clo f l vs hl ih
 |ifc t x y _ ih => exact .ifc t x y ih
 |mp i g h => exact .mp i g h
 |nst i x vs h => exact .nst i x vs h
 |pns i j g off n c vs h hj => exact .pns i j g off n c vs h hj
 |inn i j x y vs h hj => exact .inn i j x y vs h hj
 |pin i j z k o g n c y vs h hj hk => exact .pin i j z k o g n c y vs h hj hk
 |grn i A n c h => exact .grn i A n c h
 |bnd f l vs hl _ ih => exact .bnd f l vs hl ih
 |pbk i o k n j g h hj => exact .pbk i o k n j g h hj
 |yld i l h => exact .yld i l h
 |cel x h => exact .cel x h

theorem RepL.strong {ok : Bool -> Nat -> Prop} {Q : Nat -> Prop} (hQ : ∀ (a : Addr) (u : Value), w.cell? a = some u -> Q a.block) {l : List AV} {vs : List Value} (h : RepL w ok β l vs) : RepL w (fun fl b => ok fl b ∧ Q b) β l vs :=
 ⟨h.1, fun i x y hx hy => (h.2 i x y hx hy).strong hQ⟩

theorem RepO.strong {ok : Bool -> Nat -> Prop} {Q : Nat -> Prop} (hQ : ∀ (a : Addr) (u : Value), w.cell? a = some u -> Q a.block) {o : O} {x : Value} (h : RepO cx w ok β o x) : RepO cx w (fun fl b => ok fl b ∧ Q b) β o x := by
 cases o with
 |box ty cs =>
  obtain ⟨g, vs, rfl, hg, hr⟩ := h
  exact ⟨g, vs, rfl, hg, hr.strong hQ⟩
 |row s =>
  obtain ⟨cells, ho, hf, hc⟩ := h
  exact ⟨cells, ho, hf, fun j y hy => let ⟨cs, h1, h2⟩ := hc j y hy; ⟨cs, h1.strong hQ, h2⟩⟩
 |frz s =>
  obtain ⟨A, c, rfl, hc, hr⟩ := h
  exact ⟨A, c, rfl, hc, RowR.strong hQ hr⟩
 |gone => trivial
 |frn s =>
  obtain ⟨y, vs, A, c, rfl, rfl, hc, hr⟩ := h
  exact ⟨_, vs, A, c, rfl, rfl, hc, RowR.strong hQ hr⟩
 |map kt vt l => exact h
 |nst s => exact h
 |hol s j => exact h
 |grn i j e z m => exact h
 |loop key fr ph =>
  obtain ⟨l, rc, rfl, hg, h1, h2, h3, h4, hr⟩ := h
  exact ⟨l, rc, rfl, hg, h1, h2, h3, h4, fun p hp => (hr p hp).strong hQ⟩

theorem no_cells {D : Nat} {o : Obj} (h : w.heap[D]? = some o) (ho : ∀ c e f, o ≠ .cells c e f) (a : Addr) (u : Value) (hc : w.cell? a = some u) : a.block ≠ D := by
 rintro rfl
 unfold World.cell? at hc
 rw [h] at hc
 cases o with
 |cells c e f => exact ho c e f rfl
 |_ => cases hc

theorem Good.dead (g : Good cx β σ a w) {D : Nat} {o o' : Obj} (h : w.heap[D]? = some o) (ho : ∀ c e f, o ≠ .cells c e f) (hl : ¬ LiveB β σ.ob D) (hD : cx.w0.heap.size ≤ D ∨ cx.pb D) : Good cx β σ a (w.putObj D o') := by
 have hne : ∀ b, b ≠ D -> (w.putObj D o').heap[b]? = w.heap[b]? := fun b hb => World.putObj_heap_other hb
 have hm : ∀ fl b, (okB cx β σ.ob fl b ∧ b ≠ D) -> b < w.heap.size -> okB cx β σ.ob fl b ∧ (w.putObj D o').heap[b]? = w.heap[b]? := fun fl b hb _ => ⟨hb.1, hne b hb.2⟩
 refine ⟨⟨by simpa using g.W.hs, fun b hb hp => ?_, g.W.os, g.W.tape, g.W.out, g.W.len, g.W.pre, fun i o1 x h1 h2 => ?_, g.W.sep, g.W.own, g.W.tab⟩, ⟨g.A.len, fun i x hx => ?_, g.A.def_⟩⟩
 ·rw [hne b, g.W.keep b hb hp]
  rintro rfl
  rcases hD with hD | hD
  ·omega
  ·exact hp hD
 ·refine (RepO.strong (Q := fun b => b ≠ D) (no_cells h ho) (g.W.obj i o1 x h1 h2)).mono hm (fun _ _ h => h) fun hlv b hb => hne b ?_
  rintro rfl
  exact hl ⟨i, o1, x, h1, hlv, h2, hb⟩
 ·exact (RepV.strong (Q := fun b => b ≠ D) (no_cells h ho) (g.A.rep i x hx)).mono hm fun _ _ h => h

/-! ### A round -/

theorem ARep.of_L {ok : Bool -> Nat -> Prop} {fr : List AV} {t : Array Value} {ds : List Deferred} (h : RepL w ok β fr t.toList) (hd : ds = DfG.dfs) : ARep w ok β fr ⟨t, ds⟩ := by
 refine ⟨by simpa using h.1, fun i x hx => ?_, hd⟩
 have hi : i < t.size := by have := get_lt hx; have := h.1; simp at this; omega
 have := h.2 i x t[i] hx (by simp [hi])
 simpa [hi] using this

theorem ARep.to_L {ok : Bool -> Nat -> Prop} {fr : List AV} (h : ARep w ok β fr a) : RepL w ok β fr a.tmps.toList := by
 refine ⟨by simpa using h.len, fun i x y hx hy => ?_⟩
 have := h.rep i x hx
 have hi : i < a.tmps.size := by have := get_lt hy; simpa using this
 simp only [Array.getD_eq_getD_getElem?, Array.getElem?_eq_getElem hi, Option.getD_some] at this
 simp [hi] at hy
 rwa [hy] at this

theorem WRep.loop (h : WRep cx β ob w) {i key ph ph' l : Nat} {fr fr' : List (Nat × AV)} {rc : Loop} (ho : ob[i]? = some (.loop key fr ph)) (hx : β[i]? = some (.pointer (some ⟨l, 0, none⟩))) (hr : RepLoop w (okB cx β ob) β key fr' ph l rc) :
  WRep cx β (ob.set i (.loop key fr' ph')) (w.putObj l (.loop { rc with state := stOf ph', pending := pendOf ph' })) ∧ ∀ fl b, okB cx β ob fl b -> b < w.heap.size -> okB cx β (ob.set i (.loop key fr' ph')) fl b ∧ (w.putObj l (.loop { rc with state := stOf ph', pending := pendOf ph' })).heap[b]? = w.heap[b]? := by
 have hlv : LiveB β ob l := ⟨i, _, _, ho, rfl, hx, rfl⟩
 have hm : ∀ fl b, okB cx β ob fl b -> b < w.heap.size -> okB cx β (ob.set i (.loop key fr' ph')) fl b ∧ (w.putObj l (.loop { rc with state := stOf ph', pending := pendOf ph' })).heap[b]? = w.heap[b]? := by
  intro fl b hb _
  refine ⟨okB_of hb fun hl => live_set_sub hx (fun b _ hb => ⟨i, _, _, ho, rfl, hx, hb⟩) hl, World.putObj_heap_other ?_⟩
  rintro rfl
  exact hb.1 hlv
 refine ⟨h.write ho hx rfl rfl rfl rfl (by simp) (fun b hb hn => World.putObj_heap_other ?_) rfl ?_, hm⟩
 ·rintro rfl
  exact hn rfl
 ·obtain ⟨h1, h2, h3, h4, h5, h6⟩ := hr
  exact ⟨l, _, rfl, World.putObj_heap_same (Array.getElem?_eq_some_iff.1 h1).1, h2, h3, rfl, rfl, fun p hp => (h6 p hp).mono hm fun _ _ h => h⟩

end Go.Ev
