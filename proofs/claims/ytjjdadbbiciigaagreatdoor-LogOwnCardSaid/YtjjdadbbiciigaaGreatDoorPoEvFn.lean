/- Whole functions. -/
import Derived.Test.YtjjdadbbiciigaaGreatDoorPoEvDraw
import Derived.Scope
namespace Go.Ev
set_option linter.unusedVariables false
set_option linter.unusedSimpArgs false
set_option linter.unusedSectionVars false
variable [tG : TabG]

variable {P : Program} {R : Type} {cx : Cx} {β β' : List Value} {ob ob' : List O} {w w' : World} {σ σ' : St} {a a' : Act}
variable {o : Oper} {r : R} {Q : Exit -> Act -> World -> Prop} {Γ : FuncId -> Option Sum}

/-! ### Cleaning -/

theorem reach_pre (ob : List O) : ∀ (n : Nat) (todo acc : List Nat), ∃ l, reach ob n todo acc = acc ++ l
 |0, todo, acc => ⟨[], by cases todo <;> simp [reach]⟩
 |n + 1, [], acc => ⟨[], by simp [reach]⟩
 |n + 1, i :: todo, acc => by
  simp only [reach]
  split
  ·exact reach_pre ob n todo acc
  ·obtain ⟨l, h⟩ := reach_pre ob n _ (acc ++ [i])
   exact ⟨i :: l, h.trans (by simp)⟩

theorem roots_pre (ob : List O) (np : Nat) (todo : List Nat) {i : Nat} (h : i < np) : (roots ob np todo)[i]? = some i := by
 unfold roots
 obtain ⟨l, e⟩ := reach_pre ob 200 ((List.range np).flatMap (leadsAt ob) ++ todo) (List.range np)
 rw [e, List.getElem?_append, if_pos (by simpa using h), List.getElem?_range h]

theorem roots_nodup (ob : List O) (np : Nat) (todo : List Nat) : (roots ob np todo).Nodup := reach_nodup _ _ _ _ List.nodup_range

theorem clean_good {l : List Nat} (hn : l.Nodup) (hp : ∀ i, i < cx.b0.length -> l[i]? = some i) (hW : WRep cx β ob w) :
  WRep cx (l.map fun i => β.getD i undef) (pick ob (idx l) l) w ∧ (∀ (i j : Nat) (x : Value), idx l i = some j -> β[i]? = some x -> (l.map fun i => β.getD i undef)[j]? = some x) ∧
  ∀ fl b, okB cx β ob fl b -> okB cx (l.map fun i => β.getD i undef) (pick ob (idx l) l) fl b := by
 have hf : ∀ (i j : Nat) (x : Value), idx l i = some j -> β[i]? = some x -> (l.map fun i => β.getD i undef)[j]? = some x := by
  intro i j x h hx
  have := idx_some h
  rw [List.getElem?_map, this]
  simp [List.getD_eq_getElem?_getD, hx]
 -- each object that stays
 have hob1 : ∀ (j : Nat) (o' : O) (x' : Value), (pick ob (idx l) l)[j]? = some o' -> (l.map fun i => β.getD i undef)[j]? = some x' -> o' = .gone ∨ ∃ (i : Nat) (o : O), l[j]? = some i ∧ ob[i]? = some o ∧ β[i]? = some x' ∧ o' = renO (idx l) o := by
  intro j o' x' h hx
  obtain ⟨i, hi, h1⟩ := get_map h
  obtain ⟨i', hi', h2⟩ := get_map hx
  rw [hi] at hi'
  obtain rfl := Option.some.inj hi'
  cases hob : ob[i]? with
  |none =>
   rw [hob] at h1
   exact .inl h1.symm
  |some o =>
   rw [hob] at h1
   have hlt : i < β.length := by rw [hW.len]; exact get_lt hob
   refine .inr ⟨i, o, hi, hob, ?_, h1.symm⟩
   rw [List.getD_eq_getElem?_getD, List.getElem?_eq_getElem hlt] at h2
   rw [List.getElem?_eq_getElem hlt, ← h2]
   rfl
 have hlive : ∀ b, LiveB (l.map fun i => β.getD i undef) (pick ob (idx l) l) b -> LiveB β ob b := by
  rintro b ⟨j, o', x', h1, h2, h3, h4⟩
  rcases hob1 j o' x' h1 h3 with rfl | ⟨i, o, k1, k2, k3, rfl⟩
  ·cases h2
  ·exact ⟨i, o, x', k2, by exact live_ren h2, k3, h4⟩
 have hok : ∀ fl b, okB cx β ob fl b -> okB cx (l.map fun i => β.getD i undef) (pick ob (idx l) l) fl b :=
  fun fl b h => ⟨fun hl => h.1 (hlive b hl), h.2⟩
 refine ⟨⟨hW.hs, hW.keep, hW.os, hW.tape, hW.out, by simp [pick], fun i x hx => ?_, ?_, ?_, ?_, hW.tab⟩, hf, hok⟩
 ·have h1 := hp i (get_lt hx)
  rw [List.getElem?_map, h1]
  simp [List.getD_eq_getElem?_getD, hW.pre i x hx]
 ·intro j o' x' h1 h2
  rcases hob1 j o' x' h1 h2 with rfl | ⟨i, o, k1, k2, k3, rfl⟩
  ·trivial
  ·exact RepO.ren hf (fun fl b h _ => ⟨hok fl b h, rfl⟩) (Nat.le_refl _) (fun _ _ _ => rfl) (hW.obj i o x' k2 k3)
 ·intro j k o1 o2 x1 x2 b h1 h2 l1 l2 k1 k2 b1 b2
  rcases hob1 j o1 x1 h1 k1 with rfl | ⟨i, o, p1, p2, p3, rfl⟩
  ·cases l1
  ·rcases hob1 k o2 x2 h2 k2 with rfl | ⟨i', o', q1, q2, q3, rfl⟩
   ·cases l2
   ·have := hW.sep i i' o o' x1 x2 b p2 q2 (live_ren l1) (live_ren l2) p3 q3 b1 b2
    subst this
    exact nodup_get hn p1 q1
 ·intro j o' x' b h1 h2 h3 h4
  rcases hob1 j o' x' h1 h3 with rfl | ⟨i, o, p1, p2, p3, rfl⟩
  ·cases h2
  ·exact hW.own i o x' b p2 (live_ren h2) p3 h4

theorem Good.clean {np : Nat} (hp : cx.b0.length ≤ np) (g : Good cx β σ a w) (keep : List Nat) : ∃ β', Good cx β' (σ.clean np keep) a w := by
 unfold St.clean
 dsimp only
 generalize hl : roots σ.ob np ((σ.fr.mapIdx fun i x => if keep.contains i then x else AV.un).flatMap (leads 5)) = l
 obtain ⟨h1, h2, h3⟩ := clean_good (cx := cx) (β := β) (ob := σ.ob) (w := w) (l := l) (by rw [← hl]; exact roots_nodup _ _ _) (fun i hi => by rw [← hl]; exact roots_pre _ _ _ (Nat.lt_of_lt_of_le hi hp)) g.W
 refine ⟨_, h1, ⟨by simp [g.A.len], fun i x hx => ?_, g.A.def_⟩⟩
 obtain ⟨y, hy, rfl⟩ := get_map hx
 rw [List.getElem?_mapIdx] at hy
 cases hf : σ.fr[i]? with
 |none => rw [hf] at hy; cases hy
 |some z =>
  rw [hf] at hy
  simp only [Option.map_some, Option.some.injEq] at hy
  have hz := g.A.rep i z hf
  subst hy
  refine RepV.ren h2 (fun fl b h _ => ⟨h3 fl b h, rfl⟩) 5 _ _ ?_
  split
  ·exact hz
  ·exact .un _

/-! ### Results -/

theorem resAV_ok {rv : ResultVar} {x : AV} (g : Good cx β σ a w) (h : resAV P σ rv = some x) :
  ∃ v, (match rv with | .tmp t => pure (a.tmps.getD t undef) | .cell q t => do loadVar t (← asAddr (a.tmps.getD q undef)) : Sem Value).run P w = .ok v w ∧ RepV w (okB cx β σ.ob) β x v := by
 cases rv with
 |tmp t =>
  obtain rfl := Option.some.inj h
  exact ⟨_, rfl, g.ev (.tmp t)⟩
 |cell q t =>
  unfold resAV at h
  dsimp only at h
  have hq : RepV w (okB cx β σ.ob) β (σ.fr.getD q .un) (a.tmps.getD q undef) := g.ev (.tmp q)
  split at h
  ·rename_i i j he
   rw [he] at hq
   split at h
   ·rename_i ty cs hob
    generalize hv : a.tmps.getD q undef = v at hq
    cases hq with
    |ptr _ _ gg hb =>
     obtain ⟨g', vs, hp, hg, hr⟩ := g.W.obj i _ _ hob hb
     obtain rfl : gg = g' := by simpa using hp
     obtain ⟨y, v, h1, h2, h3⟩ := load_ok (P := P) (ad := ⟨gg, j, none⟩) (hr.drop j) h
     obtain rfl := Option.some.inj h1
     refine ⟨v, ?_, h3⟩
     have := h2 w fun k u hu => by
      rw [add_at, cell_of_row w gg (j + k) _ _ _ hg]
      simpa using hu
     show (do loadVar t (← asAddr (a.tmps.getD q undef)) : Sem Value).run P w = _
     rw [hv]
     simp [asAddr, this]
   ·cases h
  ·cases h

theorem resAVs_ok {g0 : ResultVar -> Sem Value} (g : Good cx β σ a w) (hg : ∀ rv x, resAV P σ rv = some x -> ∃ v, (g0 rv).run P w = .ok v w ∧ RepV w (okB cx β σ.ob) β x v) : ∀ (l : List ResultVar) (xs : List AV), resAVs P σ l = some xs →
  ∃ vs, (l.mapM g0).run P w = .ok vs w ∧ RepL w (okB cx β σ.ob) β xs vs
 |[], xs, h => by
  obtain rfl := Option.some.inj h
  exact ⟨[], rfl, rfl, fun i x y hx => by simp at hx⟩
 |rv :: l, xs, h => by
  simp only [resAVs] at h
  split at h
  ·rename_i x xs' h1 h2
   obtain rfl := Option.some.inj h
   obtain ⟨v, k1, k2⟩ := hg rv x h1
   obtain ⟨vs, k3, k4⟩ := resAVs_ok g hg l xs' h2
   refine ⟨v :: vs, ?_, by simp [k4.1], fun i y z hy hz => ?_⟩
   ·simp [List.mapM_cons, Sem.run_bind, k1, k3]
   ·cases i with
    |zero =>
     simp at hy hz
     subst hy hz
     exact k2
    |succ i => exact k4.2 i y z (by simpa using hy) (by simpa using hz)
  ·cases h

theorem promA_good {t : TypeId} {x : AV} {v : Value} (hW : WRep cx β σ.ob w) (hA : ARep w (okB cx β σ.ob) β σ.fr a) (hr : RepV w (okB cx β σ.ob) β x v) :
  ∃ β', WRep cx β' (promA P t x σ).2.ob w ∧ ARep w (okB cx β' (promA P t x σ).2.ob) β' (promA P t x σ).2.fr a ∧ RepV w (okB cx β' (promA P t x σ).2.ob) β' (promA P t x σ).1 v ∧
   (∀ (i : Nat) (x : Value), β[i]? = some x -> β'[i]? = some x) ∧ ∀ fl b, okB cx β σ.ob fl b -> b < w.heap.size -> okB cx β' (promA P t x σ).2.ob fl b := by
 unfold promA
 split
 ·rename_i l
  cases hr with
  |agg _ vs hl hc =>
   obtain ⟨β', h1, h2, h3, h4, h5, _, _⟩ := promL_good (P := P) (flatT P 12 t) l vs β σ hW hA ⟨hl, hc⟩
   exact ⟨β', h1, h2, .agg _ vs h3.1 h3.2, h4.ext, h5⟩
 ·rename_i cs
  obtain ⟨β', h1, h2, h3, h4, h5, _, _⟩ := promL_good (P := P) (flatT P 12 t) _ _ β σ hW hA (RepL.consts w (okB cx β σ.ob) β cs.toList)
  rw [rep_v hr]
  have e := RepV.agg (w := w) _ cs.toList h3.1 h3.2
  exact ⟨β', h1, h2, by simpa using e, h4.ext, h5⟩
 ·obtain ⟨β', ⟨h1, h2, h3⟩, h4, h5, _, _⟩ := prom_good (P := P) (t := t) (x := x) (v := v) (σ := σ) (a := a) ⟨hW, hA, hr⟩
  exact ⟨β', h1, h2, h3, h4.ext, h5⟩

theorem promAs_good : ∀ (ts : List TypeId) (xs : List AV) (vs : List Value) (β : List Value) (σ : St), WRep cx β σ.ob w -> ARep w (okB cx β σ.ob) β σ.fr a -> RepL w (okB cx β σ.ob) β xs vs →
  ∃ β', WRep cx β' (promAs P ts xs σ).2.ob w ∧ RepL w (okB cx β' (promAs P ts xs σ).2.ob) β' (promAs P ts xs σ).1 vs ∧
   (∀ (i : Nat) (x : Value), β[i]? = some x -> β'[i]? = some x) ∧ ∀ fl b, okB cx β σ.ob fl b -> b < w.heap.size -> okB cx β' (promAs P ts xs σ).2.ob fl b
 |[], xs, vs, β, σ, hW, hA, hr => by
  have e : promAs P [] xs σ = (xs, σ) := by cases xs <;> rfl
  rw [e]
  exact ⟨β, hW, hr, fun _ _ h => h, fun _ _ h _ => h⟩
 |t :: ts, [], vs, β, σ, hW, hA, hr => ⟨β, hW, hr, fun _ _ h => h, fun _ _ h _ => h⟩
 |t :: ts, x :: xs, [], β, σ, hW, hA, hr => by simp [RepL] at hr
 |t :: ts, x :: xs, v :: vs, β, σ, hW, hA, hr => by
  obtain ⟨β1, g1, g2, g3, g4, g5⟩ := promA_good (P := P) (t := t) hW hA (hr.2 0 x v rfl rfl)
  have hr1 : RepL w (okB cx β1 (promA P t x σ).2.ob) β1 xs vs := RepL.mono (w := w) (fun fl b h hb => ⟨g5 fl b h hb, rfl⟩) g4 ⟨by simpa using hr.1, fun i y z hy hz => hr.2 (i + 1) y z (by simpa using hy) (by simpa using hz)⟩
  obtain ⟨β2, h1, h2, h3, h4⟩ := promAs_good ts xs vs β1 _ g1 g2 hr1
  refine ⟨β2, h1, ⟨by simp [promAs, h2.1], fun i y z hy hz => ?_⟩, fun i y h => h3 i y (g4 i y h), fun fl b h hb => h4 fl b (g5 fl b h hb) hb⟩
  cases i with
  |zero =>
   simp only [promAs, List.getElem?_cons_zero, Option.some.injEq] at hy hz
   subst hy hz
   exact g3.mono (fun fl b h hb => ⟨h4 fl b h hb, rfl⟩) h3
  |succ i => exact h2.2 i y z (by simpa [promAs] using hy) (by simpa using hz)

def Done (P : Program) (cx : Cx) (fn : Func) (K : AV -> List O -> Option R) (r : R) (a : Act) (w : World) : Prop :=
 a.defers = [] ∧ ∃ v x ob' β', (results fn a.tmps).run P w = .ok v w ∧ K x ob' = some r ∧ WRep cx β' ob' w ∧ RepV w (okB cx β' ob') β' x v

theorem finish_ok {fn : Func} {np : Nat} {K : AV -> List O -> Option R} (hp : cx.b0.length ≤ np) (g : Good cx β σ a w) (h : finish P fn np K σ = some r) : Done P cx fn K r a w := by
 unfold finish at h
 split at h
 ·rename_i xs hxs
  obtain ⟨vs, h1, h2⟩ := resAVs_ok g (fun rv x => resAV_ok g) fn.results.toList xs hxs
  dsimp only at h
  obtain ⟨β1, p1, p2, _, _⟩ := promAs_good (P := P) fn.resultTypes.toList xs vs β σ g.W g.A h2
  generalize promAs P fn.resultTypes.toList xs σ = p at h p1 p2
  obtain ⟨xs, σ⟩ := p
  dsimp only at h p1 p2
  generalize hx : one1 xs = x at h
  generalize hl : roots σ.ob np (leads 5 x) = l at h
  obtain ⟨k1, k2, k3⟩ := clean_good (cx := cx) (β := β1) (ob := σ.ob) (w := w) (l := l) (by rw [← hl]; exact roots_nodup _ _ _) (fun i hi => by rw [← hl]; exact roots_pre _ _ _ (Nat.lt_of_lt_of_le hi hp)) p1
  have hv : RepV w (okB cx β1 σ.ob) β1 x (if h : vs.toArray.size = 1 then vs.toArray[0] else .tuple vs.toArray) := by
   clear h1
   match xs, vs, p2, hx with
   |[], [], h2, hx =>
    subst hx
    exact .tup _ _ rfl fun i x y hx => by simp at hx
   |[y], [v], h2, hx =>
    subst hx
    exact h2.2 0 _ _ rfl rfl
   |y :: y' :: ys, v :: v' :: vs, h2, hx =>
    subst hx
    rw [dif_neg (by simp)]
    exact .tup _ _ h2.1 h2.2
   |[], _ :: _, h2, _ => simp [RepL] at h2
   |[_], [], h2, _ => simp [RepL] at h2
   |[_], _ :: _ :: _, h2, _ => simp [RepL] at h2
   |_ :: _ :: _, [], h2, _ => simp [RepL] at h2
   |_ :: _ :: _, [_], h2, _ => simp [RepL] at h2
  refine ⟨g.A.def_, _, _, _, _, ?_, h, k1, RepV.ren k2 (fun fl b h _ => ⟨k3 fl b h, rfl⟩) 5 x _ hv⟩
  have key : ∀ g0 : ResultVar -> Sem Value, (fn.results.toList.mapM g0).run P w = .ok vs w →
    (fn.results.mapM g0 >>= fun vs => (pure (if h : vs.size = 1 then vs[0] else .tuple vs) : Sem Value)).run P w = .ok (if h : vs.toArray.size = 1 then vs.toArray[0] else .tuple vs.toArray) w := by
   intro g0 h0
   rw [Array.mapM_eq_mapM_toList]
   simp [Sem.run_bind, h0]
  exact key _ h1
 ·cases h

/-! ### Code -/

def Ends (P : Program) (b : Frame) (cs : List Frame) (T : Act -> World -> Prop) (m : Machine) : Prop :=
 ∃ a' w', T a' w' ∧ ∃ todo, Steps P m (lone { b.at a' todo with mode := .returning } cs w')

theorem Ends.of_steps {b : Frame} {cs : List Frame} {T : Act -> World -> Prop} {m m' : Machine} (h : Steps P m m') (h' : Ends P b cs T m') : Ends P b cs T m :=
 let ⟨a', w', ht, todo, hs⟩ := h'; ⟨a', w', ht, todo, h.trans hs⟩

theorem Good.drew (g : Good cx β σ a w) : Good cx β σ a { w with drawn := w.drawn + 1 } :=
 ⟨g.W.same (Same.drew w), ARep.mono (w := w) (fun _ _ h _ => ⟨h, rfl⟩) (fun _ _ h => h) g.A⟩

theorem region_sound {id : Nat} {ops : Array Oper} {draw : Bool} {K : St -> Option R} (hm : P.follows .mixedOrders = true) (hΓ : Right P Γ) (g : Good cx β σ a w) (h : evRegion P Γ ops draw σ K = some r) (b : Frame) (k : List Item) (cs : List Frame) :
  ∃ a' w', At cx K r a' w' ∧ Steps P (lone (b.at a (.code (.region id ops draw) :: k)) cs w) (lone (b.at a' k) cs w') := by
 have hwp : (Code.region id ops draw).wp P (AtEnd cx K r) a w := by
  cases draw with
  |false =>
   refine wp_region ?_
   have := evOps_sound (ops := ops.toList) hΓ ops.toList 0 β σ a w K (fun j => by simp) g h
   simpa [List.range_eq_range'] using this
  |true =>
   simp only [evRegion] at h
   split at h
   ·rename_i hs
    rw [Bool.and_eq_true] at hs
    obtain ⟨hs, hwi⟩ := hs
    rw [evDrawM_eq hwi, arr_zero] at h
    refine wp_region_any hm (wpAny_of_L (S := Held P Γ ops β σ.ob { w with drawn := w.drawn + 1 }) _ _ _ _ ?_)
    exact evDraw_sound (w0 := { w with drawn := w.drawn + 1 }) hΓ hs ops.size true _ β σ a _ K g.drew (by simp) (fun j o _ hj => by simp [Array.getElem?_replicate] at hj; split at hj <;> simp_all) ⟨Nat.le_refl _, fun _ _ _ => rfl⟩ (.refl _ _ _ _) (fun _ => ⟨rfl, rfl, rfl⟩) h
   ·cases h
 obtain ⟨e, a', w', hq, harr⟩ := hwp b k cs
 cases e with
 |normal => exact ⟨a', w', hq, harr⟩
 |_ => exact hq.elim

theorem Good.know (g : Good cx β σ a w) {c : Operand} {b : Bool} (h : a.eval c = .bool b) : Good cx β (σ.know c b) a w := by
 unfold St.know
 split
 ·rename_i t
  refine ⟨g.W, ⟨by simp [St.put, g.A.len], fun i x hx => ?_, g.A.def_⟩⟩
  rcases mem_set hx with ⟨hne, hx⟩ | ⟨rfl, rfl, _⟩
  ·exact g.A.rep i x hx
  ·have e : a.tmps.getD i undef = .bool b := h
   show RepV w (okB cx β σ.ob) β (.v (.bool b)) (a.tmps.getD i undef)
   rw [e]
   exact .v _
 ·exact g

theorem runI_sound {cuts : Cuts} {np : Nat} {cutK : List Item -> St -> Option R} {retK : St -> Option R} {T : Act -> World -> Prop} {b : Frame} {cs : List Frame} (hm : P.follows .mixedOrders = true) (hΓ : Right P Γ) (hp : cx.b0.length ≤ np)
  (hret : ∀ β σ a w, Good cx β σ a w -> retK σ = some r -> T a w)
  (hcut : ∀ k β σ a w, Good cx β σ a w -> cutK k σ = some r -> Ends P b cs T (lone (b.at a k) cs w)) :
  ∀ (s : Nat) (k : List Item) (β : List Value) (σ : St) (a : Act) (w : World), Good cx β σ a w -> runI P Γ cuts np cutK retK s k σ = some r -> Ends P b cs T (lone (b.at a k) cs w)
 |0, k, β, σ, a, w, g, h => by simp [runI] at h
 |s + 1, [], β, σ, a, w, g, h => ⟨a, w, hret β σ a w g (by simpa [runI] using h), [], .one step_end⟩
 |s + 1, .inBlock id :: k, β, σ, a, w, g, h => .of_steps (.one step_inBlock) (runI_sound hm hΓ hp hret hcut s k β σ a w g (by simpa [runI] using h))
 |s + 1, .inScope c :: k, β, σ, a, w, g, h => .of_steps (.one step_inScope) (runI_sound hm hΓ hp hret hcut s k β σ a w g (by simpa [runI] using h))
 |s + 1, .inLoop c :: k, β, σ, a, w, g, h => .of_steps (.one step_inLoop) (runI_sound hm hΓ hp hret hcut s _ β σ a w g (by simpa [runI] using h))
 |s + 1, .code c :: k, β, σ, a, w, g, h => by
  cases c with
  |skip => exact .of_steps (.one step_skip) (runI_sound hm hΓ hp hret hcut s k β σ a w g (by simpa [runI] using h))
  |region id ops draw =>
   simp only [runI] at h
   split at h
   ·rename_i keep hf
    obtain ⟨β', g'⟩ := g.clean hp keep.2
    exact hcut _ β' _ a w g' h
   ·obtain ⟨a', w', ⟨β', σ', g', h'⟩, hs⟩ := region_sound (id := id) hm hΓ g h b k cs
    exact .of_steps hs (runI_sound hm hΓ hp hret hcut s k β' σ' a' w' g' h')
  |seq x y => exact .of_steps (.one step_seq) (runI_sound hm hΓ hp hret hcut s _ β σ a w g (by simpa [runI] using h))
  |cond c x y =>
   simp only [runI] at h
   split at h
   ·rename_i t he
    have hc := g.ev c
    rw [he] at hc
    have hc := rep_v hc
    rcases br_some h with ⟨rfl, h⟩ | ⟨rfl, h⟩
    ·exact .of_steps (.one (step_cond hc)) (runI_sound hm hΓ hp hret hcut s _ β _ a w (g.know hc) h)
    ·exact .of_steps (.one (step_cond hc)) (runI_sound hm hΓ hp hret hcut s _ β _ a w (g.know hc) h)
   ·cases h
  |block id c => exact .of_steps (.one step_block) (runI_sound hm hΓ hp hret hcut s _ β σ a w g (by simpa [runI] using h))
  |scope c => exact .of_steps (.one step_scope) (runI_sound hm hΓ hp hret hcut s _ β σ a w g (by simpa [runI] using h))
  |goto l =>
   simp only [runI] at h
   split at h
   ·rename_i k' hk'
    exact .of_steps (.one (step_goto hk')) (runI_sound hm hΓ hp hret hcut s k' β σ a w g h)
   ·cases h
  |label l => exact .of_steps (.one step_label) (runI_sound hm hΓ hp hret hcut s _ β σ a w g (by simpa [runI] using h))
  |loop c => exact .of_steps (.one step_loop) (runI_sound hm hΓ hp hret hcut s _ β σ a w g (by simpa [runI] using h))
  |exit id =>
   simp only [runI] at h
   split at h
   ·rename_i k' hk
    exact .of_steps (.one (step_exit hk)) (runI_sound hm hΓ hp hret hcut s k' β σ a w g h)
   ·cases h
  |ret => exact ⟨a, w, hret β σ a w g (by simpa [runI] using h), _, .one step_ret⟩
  |_ => simp [runI] at h
 |s + 1, .inRegion _ _ :: k, β, σ, a, w, g, h => by simp [runI] at h

theorem runSeg_sound {cuts : Cuts} {np : Nat} {cutK : List Item -> St -> Option R} {retK : St -> Option R} {T : Act -> World -> Prop} {b : Frame} {cs : List Frame} (hm : P.follows .mixedOrders = true) (hΓ : Right P Γ) (hp : cx.b0.length ≤ np)
  (hret : ∀ β σ a w, Good cx β σ a w -> retK σ = some r -> T a w)
  (hcut : ∀ k β σ a w, Good cx β σ a w -> cutK k σ = some r -> Ends P b cs T (lone (b.at a k) cs w)) (k : List Item) (g : Good cx β σ a w) (h : runSeg P Γ cuts np cutK retK k σ = some r) : Ends P b cs T (lone (b.at a k) cs w) := by
 unfold runSeg at h
 split at h
 ·obtain ⟨a', w', ⟨β', σ', g', h'⟩, hs⟩ := region_sound hm hΓ g h b _ cs
  exact .of_steps hs (runI_sound hm hΓ hp hret hcut 3000 _ β' σ' a' w' g' h')
 ·cases h

theorem runO_sound {cuts : Cuts} {np : Nat} {retK : St -> Option R} {T : Act -> World -> Prop} {b : Frame} {cs : List Frame} (hm : P.follows .mixedOrders = true) (hΓ : Right P Γ) (hp : cx.b0.length ≤ np)
  (hret : ∀ β σ a w, Good cx β σ a w -> retK σ = some r -> T a w) : ∀ (n : Nat) (k : List Item) (β : List Value) (σ : St) (a : Act) (w : World), Good cx β σ a w -> runO P Γ cuts np retK n k σ = some r -> Ends P b cs T (lone (b.at a k) cs w)
 |0, k, β, σ, a, w, g, h => by cases h
 |n + 1, k, β, σ, a, w, g, h => runSeg_sound hm hΓ hp hret (fun k β σ a w g h => runO_sound hm hΓ hp hret n k β σ a w g h) k g h

theorem fn_sound' {cuts : Cuts} {f : FuncId} {fn : Func} {S : Sum} (hm : P.follows .mixedOrders = true) (hΓ : Right P Γ) (hf : P.funcs[f]? = some fn)
  (hS : ∀ {R : Type} (K : AV -> List O -> Option R) (r : R) (args : List AV) (ob : List O), S.run args ob K = some r -> ∀ (vals : List Value) (w : World) (ok : Bool -> Nat -> Prop) (β : List Value), RepL w ok β args vals →
   ∃ args', RepL w ok β args' vals ∧ args'.length ≤ fn.ntmps ∧ ∃ n, fnRun P Γ cuts fn n args' ob K = some r) : Sound P f S := by
 intro R K r args0 ob h vals w β rho pb disj hW hr0 cs
 obtain ⟨args, hr, hlen, n, hrun⟩ := hS K r args0 ob h vals w _ β hr0
 unfold fnRun at hrun
 split at hrun
 ·rename_i c hb
  have hlv : vals.length = args.length := hr.1.symm
  let b : Frame := { (default : Frame) with fn := f, kind := .normal }
  have henter : Frame.enter P f vals.toArray .normal = b.at { tmps := vals.toArray ++ Array.replicate (fn.ntmps - vals.toArray.size) undef, defers := [] } [.code c] := by
   simp [Frame.enter, Frame.at, hf, hb, b]
  have g : Good ⟨w, rho, pb, β, disj⟩ β ⟨frm fn.ntmps args, ob⟩ { tmps := vals.toArray ++ Array.replicate (fn.ntmps - vals.toArray.size) undef, defers := [] } w := by
   refine ⟨hW, ⟨by simp [frm, hlv], fun i x hx => ?_, rfl⟩⟩
   unfold frm at hx
   rw [List.getElem?_append] at hx
   have e : ((vals.toArray ++ Array.replicate (fn.ntmps - vals.toArray.size) undef).getD i undef) = if i < vals.length then vals.getD i undef else undef := by
    simp only [Array.getD_eq_getD_getElem?, Array.getElem?_append, List.size_toArray]
    split
    ·simp [List.getD_eq_getElem?_getD]
    ·rw [Array.getElem?_replicate]
     split <;> rfl
   rw [e]
   split at hx
   ·rename_i hi
    rw [if_pos (by omega)]
    have hi' : i < vals.length := by omega
    have := hr.2 i x vals[i] hx (List.getElem?_eq_getElem hi')
    rw [List.getD_eq_getElem?_getD, List.getElem?_eq_getElem hi']
    exact this
   ·rename_i hi
    rw [if_neg (by omega)]
    rw [List.getElem?_replicate] at hx
    split at hx
    ·obtain rfl := Option.some.inj hx
     exact .v _
    ·cases hx
  have hp : (⟨w, rho, pb, β, disj⟩ : Cx).b0.length ≤ ob.length := by
   show β.length ≤ ob.length
   rw [hW.len]
   exact Nat.le_refl _
  have hret : ∀ β' σ a w', Good ⟨w, rho, pb, β, disj⟩ β' σ a w' -> finish P fn ob.length K σ = some r -> Done P ⟨w, rho, pb, β, disj⟩ fn K r a w' := fun β' σ a w' g h => finish_ok hp g h
  obtain ⟨a', w', ⟨hd, v, x, ob', β', h1, h2, h3, h4⟩, todo, hs⟩ := runI_sound (b := b) (cs := cs) hm hΓ hp hret (fun k β σ a w g h => runO_sound hm hΓ hp hret n k β σ a w g h) 3000 [.code c] β _ _ w g hrun
  rw [henter]
  exact ⟨.returned v, w', _, ⟨v, x, ob', β', rfl, h2, h3, h4⟩, hs, rfl, rfl, hd, rfl, fn, hf, h1⟩
 ·cases hrun

theorem fn_sound {cuts : Cuts} {f : FuncId} {fn : Func} {S : Sum} (hm : P.follows .mixedOrders = true) (hΓ : Right P Γ) (hf : P.funcs[f]? = some fn)
  (hS : ∀ {R : Type} (K : AV -> List O -> Option R) (r : R) (args : List AV) (ob : List O), S.run args ob K = some r -> args.length ≤ fn.ntmps ∧ ∃ n, fnRun P Γ cuts fn n args ob K = some r) : Sound P f S :=
 fn_sound' hm hΓ hf fun K r args ob h vals w ok β hr => ⟨args, hr, (hS K r args ob h).1, (hS K r args ob h).2⟩

/-! ### Summaries, gathered -/

def addS (Γ : FuncId -> Option Sum) (f : FuncId) (S : Sum) : FuncId -> Option Sum := fun g => if g = f then some S else Γ g

theorem right_add {f : FuncId} {S : Sum} (h : Right P Γ) (hc : Callable P f) (hs : Sound P f S) : Right P (addS Γ f S) := by
 intro g T hT
 unfold addS at hT
 split at hT
 ·rename_i e
  subst e
  obtain rfl := Option.some.inj hT
  exact ⟨hc, hs⟩
 ·exact h g T hT

abbrev iv (x : Int) : AV := .v (.int .i64 x)
abbrev wi (n : TypeId) (x : List Int) : O := .row ⟨true, n, .int .i64, x⟩
abbrev wb (n : TypeId) (x : List Int) : O := .row ⟨true, n, .int .u8, x⟩
abbrev ri (n : TypeId) (x : List Int) : AV := .rd ⟨false, n, .int .i64, x⟩
abbrev rb (n : TypeId) (x : List Int) : AV := .rd ⟨false, n, .int .u8, x⟩

end Go.Ev
