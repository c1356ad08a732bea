/- Flat values: what they are as values, when two are the same; keys of maps. -/
import Derived.Test.YtjjdadbbiciigaaGreatDoorTkEvOps2
import Derived.Laws.StructEq
import Derived.MapKept
import Derived.WideKeyRuns
namespace Go.Ev
set_option linter.unusedVariables false
set_option linter.unusedSimpArgs false
set_option linter.unusedSectionVars false
variable [tG : TabG] [lG : LoopG] [dG : DfG]

variable {P : Program} {R : Type} {cx : Cx} {β β' : List Value} {ob ob' : List O} {w w' : World} {σ σ' : St} {a a' : Act}

theorem single_of {ok : Bool -> Nat -> Prop} {x : AV} {vs : List Value} (h : RepL w ok β [x] vs) : ∃ v, vs = [v] ∧ RepV w ok β x v := by
 match vs, h with
 |[], h => simp [RepL] at h
 |[v], h => exact ⟨v, rfl, h.2 0 x v rfl rfl⟩
 |_ :: _ :: _, h => simp [RepL] at h

theorem take_of {ok : Bool -> Nat -> Prop} {l : List AV} {vs : List Value} (h : RepL w ok β l vs) (n : Nat) : RepL w ok β (l.take n) (vs.take n) :=
 ⟨by simp [h.1], fun i x y hx hy => by
  rw [List.getElem?_take] at hx hy
  split at hx
  ·rename_i hlt
   rw [if_pos hlt] at hy
   exact h.2 i x y hx hy
  ·cases hx⟩

theorem unre_flat {ok : Bool -> Nat -> Prop} : ∀ (t : Ty) (cs : List AV) (vs : List Value) (fl : Bool) (y : t.S), t.flat = true -> unre ob t cs = some (fl, y) -> RepL w ok β cs vs -> vs = t.cs y := by
 intro t
 induction t with
 |int k =>
  intro cs vs fl y _ h hr
  simp only [unre] at h
  split at h
  ·rename_i k' n
   split at h
   ·rename_i hk
    obtain ⟨rfl, rfl⟩ := Prod.mk.inj (Option.some.inj h)
    obtain ⟨v, rfl, hv⟩ := single_of hr
    rw [rep_v hv, hk]
    rfl
   ·cases h
  ·cases h
 |bool =>
  intro cs vs fl y _ h hr
  simp only [unre] at h
  split at h
  ·obtain ⟨rfl, rfl⟩ := Prod.mk.inj (Option.some.inj h)
   obtain ⟨v, rfl, hv⟩ := single_of hr
   rw [rep_v hv]
   rfl
  ·cases h
 |str =>
  intro cs vs fl y _ h hr
  simp only [unre] at h
  split at h
  ·obtain ⟨rfl, rfl⟩ := Prod.mk.inj (Option.some.inj h)
   obtain ⟨v, rfl, hv⟩ := single_of hr
   rw [rep_v hv]
   rfl
  ·cases h
 |sl e t ih => intro cs vs fl y hf; cases hf
 |pr a b iha ihb =>
  intro cs vs fl y hf h hr
  have hf := Bool.and_eq_true_iff.1 hf
  simp only [unre] at h
  split at h
  ·rename_i x z hx hz
   obtain ⟨rfl, rfl⟩ := Prod.mk.inj (Option.some.inj h)
   have h1 := iha _ _ x.1 x.2 hf.1 hx (take_of hr a.sz)
   have h2 := ihb _ _ z.1 z.2 hf.2 hz (hr.drop a.sz)
   show vs = a.cs x.2 ++ b.cs z.2
   rw [← h1, ← h2, List.take_append_drop]
  ·cases h

theorem cs_one : ∀ (t : Ty) (x : t.S), t.flat = true -> t.isPr = false -> ∃ v, t.cs x = [v] := by
 intro t
 cases t with
 |sl e t => intro x h; cases h
 |pr a b => intro x _ h; cases h
 |_ => exact fun x _ _ => ⟨_, rfl⟩

theorem val_pr {t : Ty} (h : t.isPr = true) (x : t.S) : t.val x = .agg (t.cs x).toArray := by
 unfold Ty.val
 rw [h]

theorem val_one {t : Ty} (h : t.isPr = false) {x : t.S} {v : Value} (hv : t.cs x = [v]) : t.val x = v := by
 unfold Ty.val
 rw [h]
 simp only [hv]
 rfl

theorem flatOf_val {ok : Bool -> Nat -> Prop} {t : Ty} {x : AV} {k : t.S} {v : Value} (h : flatOf ob t x = some k) (hr : RepV w ok β x v) : v = t.val k := by
 unfold flatOf at h
 split at h
 ·rename_i cs hf hc
  split at h
  ·rename_i r hu
   split at h
   ·rename_i hag
    obtain rfl := Option.some.inj h
    unfold cellsO at hc
    split at hc
    ·rename_i l
     split at hc
     ·obtain rfl := Option.some.inj hc
      cases hr with
      |agg l vs hl hcs =>
       have := unre_flat t l vs r.1 r.2 hf hu ⟨hl, hcs⟩
       rw [val_pr hag.symm, this]
     ·cases hc
    ·rename_i vs
     split at hc
     ·obtain rfl := Option.some.inj hc
      have := unre_flat t _ vs.toList r.1 r.2 hf hu (RepL.consts w ok β vs.toList)
      rw [rep_v hr, val_pr hag.symm, ← this]
     ·cases hc
    ·rename_i n1 n2
     split at hc
     ·obtain rfl := Option.some.inj hc
      have hfalse : t.isPr = false := by
       rw [← hag]
       cases hA : aggA x with
       |false => rfl
       |true =>
        clear hc hu
        unfold aggA at hA
        split at hA
        ·exact absurd rfl (n1 _)
        ·exact absurd rfl (n2 _)
        ·cases hA
      have := unre_flat t [x] [v] r.1 r.2 hf hu ⟨rfl, fun i y z hy hz => by
       have hi : i = 0 := by
        have := get_lt hy
        simp at this
        exact this
       subst hi
       simp at hy hz
       subst hy hz
       exact hr⟩
      rw [val_one hfalse this.symm]
     ·cases hc
   ·cases h
  ·cases h
 ·cases h

/-! ### Equality -/

theorem plainT_sz {t : TypeId} {ty : Ty} {n : Nat} (h : plainT P t = true) (ht : tyOf P n t = some ty) : ty.isPr = false ∧ ty.flat = true ∧ ((∃ k, P.underlying t = some (.int k) ∧ ty = .int k) ∨ (P.underlying t = some .bool ∧ ty = .bool) ∨ (P.underlying t = some .string ∧ ty = .str)) := by
 cases n with
 |zero => simp [tyOf] at ht
 |succ n =>
  unfold plainT at h
  unfold tyOf at ht
  split at h
  ·rename_i k hu
   rw [hu] at ht
   obtain rfl := Option.some.inj ht
   exact ⟨rfl, rfl, .inl ⟨k, hu, rfl⟩⟩
  ·rename_i hu
   rw [hu] at ht
   obtain rfl := Option.some.inj ht
   exact ⟨rfl, rfl, .inr (.inl ⟨hu, rfl⟩)⟩
  ·rename_i hu
   rw [hu] at ht
   obtain rfl := Option.some.inj ht
   exact ⟨rfl, rfl, .inr (.inr ⟨hu, rfl⟩)⟩
  ·cases h

theorem eq_plain {t : TypeId} {ty : Ty} {n : Nat} (h : plainT P t = true) (ht : tyOf P n t = some ty) (d : Nat) (w : World) (x y : ty.S) (u v : Value) (hu : ty.cs x = [u]) (hv : ty.cs y = [v]) :
  (Op.equalIn (d + 1) t u v).run P w = .ok (eqS ty x y) w := by
 rcases (plainT_sz h ht).2.2 with ⟨k, h1, rfl⟩ | ⟨h1, rfl⟩ | ⟨h1, rfl⟩
 ·have hu := List.cons.inj hu
  have hv := List.cons.inj hv
  rw [← hu.1, ← hv.1]
  exact run_equalIn_int w d t k k x y h1
 ·have hu := List.cons.inj hu
  have hv := List.cons.inj hv
  rw [← hu.1, ← hv.1]
  exact run_equalIn_bool w d t x y h1
 ·have hu := List.cons.inj hu
  have hv := List.cons.inj hv
  rw [← hu.1, ← hv.1]
  exact run_equalIn_string w d t x y h1

theorem part_plain {t : TypeId} (h : plainT P t = true) {cs : Array Value} {off : Nat} {v : Value} (hv : cs[off]? = some v) (w : World) : (part t cs off).run P w = .ok v w := by
 have hb : isAggT P t = some false := by
  unfold plainT at h
  unfold isAggT
  split at h
  ·rename_i k hu; rw [hu]
  ·rename_i hu; rw [hu]
  ·rename_i hu; rw [hu]
  ·cases h
 simp [part, run_isAgg hb, hv]

theorem plainFs_cons {off : Nat} {f : Field} {fs : List Field} (h : plainFs P off (f :: fs) = true) : f.name ≠ "_" ∧ f.offset = off ∧ plainT P f.type = true ∧ plainFs P (off + 1) fs = true := by
 have h' : (f.name != "_" && f.offset == off && plainT P f.type && plainFs P (off + 1) fs) = true := h
 simp only [Bool.and_eq_true, beq_iff_eq, bne_iff_ne] at h'
 exact ⟨h'.1.1.1, h'.1.1.2, h'.1.2, h'.2⟩

theorem tyAll_cons2 (f : TypeId -> Option Ty) (x y : Field) (r : List Field) : tyOf.tyAll f (x :: y :: r) = match f x.type, tyOf.tyAll f (y :: r) with
  |some a, some b => some (.pr a b)
  |_, _ => none := rfl

theorem check_plain {t : TypeId} {ty : Ty} {n : Nat} (h : plainT P t = true) (ht : tyOf P n t = some ty) (em : Bool) (d : Nat) (w : World) (x : ty.S) (u : Value) (hu : ty.cs x = [u]) : (Instr.checkKey em (d + 1) t u).run P w = .ok () w := by
 rcases (plainT_sz h ht).2.2 with ⟨k, h5, rfl⟩ | ⟨h5, rfl⟩ | ⟨h5, rfl⟩
 ·have hu := List.cons.inj hu
  rw [← hu.1]
  simp [Instr.checkKey, run_underlying h5]
 ·have hu := List.cons.inj hu
  rw [← hu.1]
  simp [Instr.checkKey, run_underlying h5]
 ·have hu := List.cons.inj hu
  rw [← hu.1]
  simp [Instr.checkKey, run_underlying h5]

theorem eq_fields {n : Nat} (d : Nat) : ∀ (fs : List Field) (off : Nat) (ty : Ty) (x y : ty.S) (xs ys : Array Value), plainFs P off fs = true -> tyOf.tyAll (tyOf P n) fs = some ty -> xs.toList.drop off = ty.cs x -> ys.toList.drop off = ty.cs y →
  ∀ w, (Op.eqFields (d + 1) xs ys fs).run P w = .ok (eqS ty x y) w
 |[], off, ty, x, y, xs, ys, hp, ht, hx, hy => by simp [tyOf.tyAll] at ht
 |[f], off, ty, x, y, xs, ys, hp, ht, hx, hy => by
  intro w
  obtain ⟨hname, hoff, hpl, _⟩ := plainFs_cons hp
  have ht : tyOf P n f.type = some ty := ht
  obtain ⟨h1, h2, _⟩ := plainT_sz hpl ht
  obtain ⟨u, hu⟩ := cs_one ty x h2 h1
  obtain ⟨v, hv⟩ := cs_one ty y h2 h1
  have gx : xs[off]? = some u := by
   have := congrArg (fun l => l[0]?) (hx.trans hu)
   simpa using this
  have gy : ys[off]? = some v := by
   have := congrArg (fun l => l[0]?) (hy.trans hv)
   simpa using this
  rw [← hoff] at gx gy
  simp only [Op.eqFields, if_pos hname, Sem.run_bind, part_plain hpl gx, part_plain hpl gy, Result.andThen_ok, eq_plain hpl ht d w x y u v hu hv]
  cases eqS ty x y <;> rfl
 |f :: f2 :: fs, off, ty, x, y, xs, ys, hp, ht, hx, hy => by
  intro w
  obtain ⟨hname, hoff, hpl, hrest⟩ := plainFs_cons hp
  rw [tyAll_cons2] at ht
  split at ht
  ·rename_i ta tb ha hb
   obtain rfl := Option.some.inj ht
   obtain ⟨h1, h2, _⟩ := plainT_sz hpl ha
   obtain ⟨u, hu⟩ := cs_one ta x.1 h2 h1
   obtain ⟨v, hv⟩ := cs_one ta y.1 h2 h1
   have hx' : xs.toList.drop off = u :: tb.cs x.2 := by
    rw [hx]
    show ta.cs x.1 ++ tb.cs x.2 = _
    rw [hu]
    rfl
   have hy' : ys.toList.drop off = v :: tb.cs y.2 := by
    rw [hy]
    show ta.cs y.1 ++ tb.cs y.2 = _
    rw [hv]
    rfl
   have gx : xs[off]? = some u := by
    have := congrArg (fun l => l[0]?) hx'
    simpa using this
   have gy : ys[off]? = some v := by
    have := congrArg (fun l => l[0]?) hy'
    simpa using this
   have dx : xs.toList.drop (off + 1) = tb.cs x.2 := by
    rw [← List.drop_drop, hx']
    rfl
   have dy : ys.toList.drop (off + 1) = tb.cs y.2 := by
    rw [← List.drop_drop, hy']
    rfl
   rw [← hoff] at gx gy
   have ih := eq_fields d (f2 :: fs) (off + 1) tb x.2 y.2 xs ys hrest hb dx dy w
   simp only [Op.eqFields, if_pos hname, Sem.run_bind, part_plain hpl gx, part_plain hpl gy, Result.andThen_ok, eq_plain hpl ha d w x.1 y.1 u v hu hv] at ih ⊢
   have e : eqS (.pr ta tb) x y = (eqS ta x.1 y.1 && eqS tb x.2 y.2) := rfl
   rw [e]
   cases eqS ta x.1 y.1 with
   |false => rfl
   |true => simpa using ih
  ·cases ht

theorem cmpT_cases {t : TypeId} {ty : Ty} (h : cmpT P t = some ty) : (plainT P t = true ∧ tyOf P 12 t = some ty) ∨
  ∃ fs, P.underlying t = some (.struct fs) ∧ tyOf.tyAll (tyOf P 11) fs.toList = some ty ∧ plainFs P 0 fs.toList = true ∧ ty.isPr = true ∧ P.stoodInHeld t = false ∧ P.eqGuardType P.depth t = false := by
 unfold cmpT at h
 split at h
 ·rename_i k hu
  exact .inl ⟨by unfold plainT; rw [hu], by rw [tyOf, hu]; exact h⟩
 ·rename_i hu
  exact .inl ⟨by unfold plainT; rw [hu], by rw [tyOf, hu]; exact h⟩
 ·rename_i hu
  exact .inl ⟨by unfold plainT; rw [hu], by rw [tyOf, hu]; exact h⟩
 ·rename_i fs hu
  split at h
  ·rename_i ty' ht
   split at h
   ·rename_i hc
    obtain rfl := Option.some.inj h
    simp only [Bool.and_eq_true, Bool.not_eq_true'] at hc
    obtain ⟨⟨⟨h1, h2⟩, h3⟩, h4⟩ := hc
    rw [tyOf, hu] at ht
    exact .inr ⟨fs, hu, ht, h1, h2, h3, h4⟩
   ·cases h
  ·cases h
 ·cases h

theorem equal_val {t : TypeId} {ty : Ty} (h : cmpT P t = some ty) (w : World) (x y : ty.S) : (Op.equal t (ty.val x) (ty.val y)).run P w = .ok (eqS ty x y) w := by
 rcases cmpT_cases h with ⟨h1, h2⟩ | ⟨fs, hu, ht, hp, hpr, hst, hg⟩
 ·obtain ⟨h3, h4, _⟩ := plainT_sz h1 h2
  obtain ⟨u, hu⟩ := cs_one ty x h4 h3
  obtain ⟨v, hv⟩ := cs_one ty y h4 h3
  rw [val_one h3 hu, val_one h3 hv]
  exact eq_plain h1 h2 9999 w x y u v hu hv
 ·rw [val_pr hpr, val_pr hpr]
  have hf : P.fieldsOf t = fs := by simp [Program.fieldsOf, hu]
  show (Op.equalIn (9999 + 1) t _ _).run P w = _
  rw [run_equalIn_struct w 9999 t _ _ (by rw [hf]; exact hu) hst, hf]
  exact eq_fields 9998 fs.toList 0 ty x y _ _ hp ht (by simp) (by simp) w

/-! ### Keys -/

theorem check_fields {n d : Nat} {em : Bool} (w : World) : ∀ (fs : List Field) (off : Nat) (ty : Ty) (x : ty.S) (xs : Array Value), plainFs P off fs = true -> tyOf.tyAll (tyOf P n) fs = some ty -> xs.toList.drop off = ty.cs x →
  ∀ f ∈ fs, ∃ v, (part f.type xs f.offset).run P w = .ok v w ∧ (Instr.checkKey em (d + 1) f.type v).run P w = .ok () w
 |[], off, ty, x, xs, hp, ht, hx => by simp
 |f :: fs, off, ty, x, xs, hp, ht, hx => by
  obtain ⟨hname, hoff, hpl, hrest⟩ := plainFs_cons hp
  have head : ∀ (ta : Ty) (z : ta.S) (r : List Value), tyOf P n f.type = some ta -> xs.toList.drop off = ta.cs z ++ r -> ∃ v, (part f.type xs f.offset).run P w = .ok v w ∧ (Instr.checkKey em (d + 1) f.type v).run P w = .ok () w := by
   intro ta z r ha hxs
   obtain ⟨h1, h2, h3⟩ := plainT_sz hpl ha
   obtain ⟨u, hu⟩ := cs_one ta z h2 h1
   have gx : xs[off]? = some u := by
    rw [hu] at hxs
    have := congrArg (fun l => l[0]?) hxs
    simpa using this
   rw [← hoff] at gx
   refine ⟨u, part_plain hpl gx w, ?_⟩
   exact check_plain hpl ha em d w z u hu
  intro g hg
  cases fs with
  |nil =>
   simp at hg
   subst hg
   exact head ty x [] ht (by simpa using hx)
  |cons f2 fs =>
   rw [tyAll_cons2] at ht
   split at ht
   ·rename_i ta tb ha hb
    obtain rfl := Option.some.inj ht
    rcases List.mem_cons.1 hg with rfl | hg
    ·exact head ta x.1 (tb.cs x.2) ha hx
    ·refine check_fields w (f2 :: fs) (off + 1) tb x.2 xs hrest hb ?_ g hg
     obtain ⟨h1, h2, _⟩ := plainT_sz hpl ha
     obtain ⟨u, hu⟩ := cs_one ta x.1 h2 h1
     rw [← List.drop_drop, hx]
     show (ta.cs x.1 ++ tb.cs x.2).drop 1 = _
     rw [hu]
     rfl
   ·cases ht

theorem run_check {t : TypeId} {ty : Ty} (h : cmpT P t = some ty) (w : World) (x : ty.S) (em : Bool) : (Instr.checkKey em 10000 t (ty.val x)).run P w = .ok () w := by
 rcases cmpT_cases h with ⟨h1, h2⟩ | ⟨fs, hu, ht, hp, hpr, hst, hg⟩
 ·obtain ⟨h3, h4, h5⟩ := plainT_sz h1 h2
  obtain ⟨u, hu⟩ := cs_one ty x h4 h3
  rw [val_one h3 hu]
  exact check_plain h1 h2 em 9999 w x u hu
 ·rw [val_pr hpr]
  show (Instr.checkKey em (9999 + 1) t _).run P w = _
  rw [Instr.checkKey]
  simp only [Sem.run_bind, run_underlying hu, Result.andThen_ok]
  rw [← Array.forIn_toList]
  have each := check_fields (em := em) (d := 9998) w fs.toList 0 ty x (ty.cs x).toArray hp ht (by simp)
  have names : ∀ (l : List Field) (off : Nat), plainFs P off l = true -> ∀ f ∈ l, f.name ≠ "_" := by
   intro l
   induction l with
   |nil => intro off _ f hf; simp at hf
   |cons g l ih =>
    intro off hp f hf
    obtain ⟨p1, p2, p3, p4⟩ := plainFs_cons hp
    rcases List.mem_cons.1 hf with rfl | hf
    ·exact p1
    ·exact ih _ p4 f hf
  have hn := names fs.toList 0 hp
  generalize fs.toList = L at each hn
  induction L with
  |nil => simp
  |cons f L ih =>
   obtain ⟨v, p1, p2⟩ := each f (by simp)
   have hnf := hn f (by simp)
   simp only [List.forIn_cons, Sem.run_bind, hnf, ne_eq, not_false_eq_true, if_true, Result.andThen_ok, p1, p2, Sem.run_pure]
   exact ih (fun y hy => each y (by simp [hy])) (fun y hy => hn y (by simp [hy]))

def mpos (kt vt : Ty) (k : kt.S) : List (kt.S × vt.S) -> Nat -> Option (Nat × vt.S)
 |[], _ => none
 |p :: l, i => match eqS kt k p.1 with
  |true => some (i, p.2)
  |false => mpos kt vt k l (i + 1)

theorem find_plain {t : TypeId} {ty : Ty} (h1 : plainT P t = true) (h2 : tyOf P 12 t = some ty) (w : World) (vt : Ty) (k : ty.S) : ∀ (es : List MapEntry) (l : List (ty.S × vt.S)) (i : Nat),
  es.map (fun e => (e.key, e.val)) = l.map (fun p => (ty.val p.1, vt.val p.2)) -> ∃ d, P.underlying t = some d ∧ Instr.findNow d (ty.val k) es i = some ((mpos ty vt k l i).map fun p => (p.1, vt.val p.2)) := by
 obtain ⟨h3, h4, h5⟩ := plainT_sz h1 h2
 intro es
 induction es with
 |nil =>
  intro l i hm
  have hl : l = [] := by
   cases l with
   |nil => rfl
   |cons p l => simp at hm
  subst hl
  rcases h5 with ⟨q, h5, _⟩ | ⟨h5, _⟩ | ⟨h5, _⟩ <;> exact ⟨_, h5, rfl⟩
 |cons e es ih =>
  intro l i hm
  cases l with
  |nil => simp at hm
  |cons p l =>
   simp only [List.map_cons, List.cons.injEq, Prod.mk.injEq] at hm
   obtain ⟨⟨hk, hv⟩, hm⟩ := hm
   obtain ⟨d, hd, ih⟩ := ih l (i + 1) hm
   refine ⟨d, hd, ?_⟩
   have key : Instr.sameNow d (ty.val k) e.key = some (eqS ty k p.1) := by
    rw [hk]
    rcases h5 with ⟨q, h5, rfl⟩ | ⟨h5, rfl⟩ | ⟨h5, rfl⟩
    ·rw [h5] at hd
     obtain rfl := Option.some.inj hd
     show (if q = q then some ((k : Int) == p.1) else none) = _
     rw [if_pos rfl]
     rfl
    ·rw [h5] at hd
     obtain rfl := Option.some.inj hd
     rfl
    ·rw [h5] at hd
     obtain rfl := Option.some.inj hd
     show some ((k : ByteArray) == p.1) = _
     rw [beq_toListBytes]
     rfl
   unfold Instr.findNow
   rw [key]
   unfold mpos
   cases eqS ty k p.1 with
   |true => simp [hv]
   |false => simpa using ih

theorem find_struct {t : TypeId} {ty : Ty} (h : cmpT P t = some ty) (w : World) (vt : Ty) (k : ty.S) : ∀ (es : List MapEntry) (l : List (ty.S × vt.S)) (i : Nat),
  es.map (fun e => (e.key, e.val)) = l.map (fun p => (ty.val p.1, vt.val p.2)) -> (Instr.findAsking t (ty.val k) es i).run P w = .ok ((mpos ty vt k l i).map fun p => (p.1, vt.val p.2)) w := by
 intro es
 induction es with
 |nil =>
  intro l i hm
  have hl : l = [] := by
   cases l with
   |nil => rfl
   |cons p l => simp at hm
  subst hl
  simp [Instr.findAsking, mpos]
 |cons e es ih =>
  intro l i hm
  cases l with
  |nil => simp at hm
  |cons p l =>
   simp only [List.map_cons, List.cons.injEq, Prod.mk.injEq] at hm
   obtain ⟨⟨hk, hv⟩, hm⟩ := hm
   have ih := ih l (i + 1) hm
   unfold Instr.findAsking mpos
   rw [hk]
   simp only [Sem.run_bind, equal_val h w k p.1, Result.andThen_ok]
   cases eqS ty k p.1 with
   |true => simp [hv]
   |false => simpa using ih

theorem run_find {t : TypeId} {ty : Ty} (h : cmpT P t = some ty) (w : World) (vt : Ty) (k : ty.S) (es : List MapEntry) (l : List (ty.S × vt.S))
  (hm : es.map (fun e => (e.key, e.val)) = l.map (fun p => (ty.val p.1, vt.val p.2))) : (Instr.findKey t (ty.val k) es).run P w = .ok ((mpos ty vt k l 0).map fun p => (p.1, vt.val p.2)) w := by
 rcases cmpT_cases h with ⟨h1, h2⟩ | ⟨fs, hu, ht, hp, hpr, hst, hg⟩
 ·obtain ⟨d, hd, hf⟩ := find_plain h1 h2 w vt k es l 0 hm
  simp [Instr.findKey, run_underlying hd, hf]
 ·rw [run_findKey_eq w (by rw [hu])]
  exact find_struct h w vt k es l 0 hm

theorem mpos_find (kt vt : Ty) (k : kt.S) : ∀ (l : List (kt.S × vt.S)) (i : Nat), (mpos kt vt k l i).map (·.2) = mfind kt vt k l
 |[], _ => rfl
 |p :: l, i => by
  unfold mpos mfind
  cases eqS kt k p.1 with
  |true => rfl
  |false => exact mpos_find kt vt k l (i + 1)

theorem eqS_eq : ∀ (t : Ty) (x y : t.S), eqS t x y = true -> x = y := by
 intro t
 induction t with
 |int k => intro x y h; exact eq_of_beq (α := Int) h
 |bool => intro x y h; exact eq_of_beq (α := Bool) h
 |str =>
  intro x y h
  have h' : (ByteArray.toList x == ByteArray.toList y) = true := h
  rw [← beq_toListBytes] at h'
  exact (MapKept.bytes_beq x y).1 h'
 |sl e t ih => intro x y h; cases h
 |pr a b iha ihb =>
  intro x y h
  have h := Bool.and_eq_true_iff.1 h
  exact Prod.ext (iha _ _ h.1) (ihb _ _ h.2)

theorem mpos_some (kt vt : Ty) (k : kt.S) (v : vt.S) : ∀ (l : List (kt.S × vt.S)) (i : Nat), match mpos kt vt k l i with
  |none => mput kt vt k v l = l ++ [(k, v)]
  |some q => ∃ j, q.1 = i + j ∧ j < l.length ∧ (∃ u, l[j]? = some (k, u)) ∧ mput kt vt k v l = l.set j (k, v)
 |[], _ => rfl
 |p :: l, i => by
  unfold mpos
  cases he : eqS kt k p.1 with
  |true =>
   have := eqS_eq kt _ _ he
   refine ⟨0, rfl, by simp, ⟨p.2, by rw [this]; rfl⟩, ?_⟩
   simp [mput, he]
  |false =>
   have ih := mpos_some kt vt k v l (i + 1)
   simp only
   split
   ·rename_i hn
    rw [hn] at ih
    simp only at ih
    simp [mput, he, ih]
   ·rename_i q hq
    rw [hq] at ih
    obtain ⟨j, h1, h2, h3, h4⟩ := ih
    refine ⟨j + 1, by omega, by simpa using h2, by simpa using h3, ?_⟩
    simp [mput, he, h4]

theorem same_cs : ∀ (t : Ty) (x : t.S) (n : Nat), t.flat = true -> ∀ p ∈ (t.cs x).zip (t.cs x), Instr.sameBits n p.1 p.2 = true := by
 intro t
 induction t with
 |int k =>
  intro x n _ p hp
  simp [Ty.cs] at hp
  subst hp
  cases n <;> simp [Instr.sameBits]
 |bool =>
  intro x n _ p hp
  simp [Ty.cs] at hp
  subst hp
  cases n <;> simp [Instr.sameBits]
 |str =>
  intro x n _ p hp
  simp [Ty.cs] at hp
  subst hp
  have : (x == x) = true := (MapKept.bytes_beq x x).2 rfl
  cases n <;> simp [Instr.sameBits, this]
 |sl e t ih => intro x n h; cases h
 |pr a b iha ihb =>
  intro x n h p hp
  have h := Bool.and_eq_true_iff.1 h
  have : (Ty.cs (.pr a b) x).zip (Ty.cs (.pr a b) x) = (a.cs x.1).zip (a.cs x.1) ++ (b.cs x.2).zip (b.cs x.2) := by
   show (a.cs x.1 ++ b.cs x.2).zip (a.cs x.1 ++ b.cs x.2) = _
   rw [List.zip_append rfl]
  rw [this] at hp
  rcases List.mem_append.1 hp with hp | hp
  ·exact iha _ n h.1 p hp
  ·exact ihb _ n h.2 p hp

theorem run_stays {t : Ty} (hf : t.flat = true) (x : t.S) (w : World) : (Instr.keyThatStays (t.val x) (t.val x)).run P w = .ok (t.val x) w := by
 have hs : Instr.sameBits 10000 (t.val x) (t.val x) = true := by
  show Instr.sameBits (9999 + 1) (t.val x) (t.val x) = true
  cases hp : t.isPr with
  |true =>
   rw [val_pr hp]
   simp only [Instr.sameBits, beq_self_eq_true, Bool.true_and, List.all_eq_true]
   exact fun p h => same_cs t x 9999 hf p h
  |false =>
   obtain ⟨v, hv⟩ := cs_one t x hf hp
   rw [val_one hp hv]
   have := same_cs t x (9999 + 1) hf (v, v) (by rw [hv]; simp)
   exact this
 simp [Instr.keyThatStays, hs]

theorem cmpT_flat {t : TypeId} {ty : Ty} (h : cmpT P t = some ty) : ty.flat = true := by
 rcases cmpT_cases h with ⟨h1, h2⟩ | ⟨fs, hu, ht, hp, hpr, hst, hg⟩
 ·exact (plainT_sz h1 h2).2.1
 ·have : ∀ (l : List Field) (off : Nat) (ty : Ty), plainFs P off l = true -> tyOf.tyAll (tyOf P 11) l = some ty -> ty.flat = true := by
   intro l
   induction l with
   |nil => intro off ty _ h; simp [tyOf.tyAll] at h
   |cons f l ih =>
    intro off ty hp ht
    obtain ⟨p1, p2, p3, p4⟩ := plainFs_cons hp
    cases l with
    |nil => exact (plainT_sz p3 ht).2.1
    |cons f2 l =>
     rw [tyAll_cons2] at ht
     split at ht
     ·rename_i ta tb ha hb
      obtain rfl := Option.some.inj ht
      exact Bool.and_eq_true_iff.2 ⟨(plainT_sz p3 ha).2.1, ih _ _ p4 hb⟩
     ·cases ht
  exact this _ _ _ hp ht

end Go.Ev
