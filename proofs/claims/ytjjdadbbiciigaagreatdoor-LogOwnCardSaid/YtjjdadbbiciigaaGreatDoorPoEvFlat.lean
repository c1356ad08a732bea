/- Flat values: what they are as values, when two are the same; keys of maps. -/
import Derived.Test.YtjjdadbbiciigaaGreatDoorPoEvOps2
import Derived.Laws.StructEq
import Derived.MapKept
import Derived.WideKeyRuns
namespace Go.Ev
set_option linter.unusedVariables false
set_option linter.unusedSimpArgs false
set_option linter.unusedSectionVars false
variable [tG : TabG]

variable {P : Program} {R : Type} {cx : Cx} {β β' : List Value} {ob ob' : List O} {w w' : World} {σ σ' : St} {a a' : Act}

theorem single_of {ok : Bool -> Nat -> Prop} {x : AV} {vs : List Value} (h : RepL w ok β [x] vs) : ∃ v, vs = [v] ∧ RepV w ok β x v := by
 match vs, h with
 |[], h => simp [RepL] at h
 |[v], h => exact ⟨v, rfl, h.2 0 x v rfl rfl⟩
 |_ :: _ :: _, h => simp [RepL] at h

theorem take_of {ok : Bool -> Nat -> Prop} {l : List AV} {vs : List Value} (h : RepL w ok β l vs) (n : Nat) : RepL w ok β (l.take n) (vs.take n) :=
 ⟨by simp [h.1], fun i x y hx hy => by
  rw [List.getElem?_take] at hx hy
  split at hx
  ·rename_i hlt
   rw [if_pos hlt] at hy
   exact h.2 i x y hx hy
  ·cases hx⟩

theorem unre_flat {ok : Bool -> Nat -> Prop} : ∀ (t : Ty) (cs : List AV) (vs : List Value) (fl : Bool) (y : t.S), t.flat = true -> unre ob t cs = some (fl, y) -> RepL w ok β cs vs -> vs = t.cs y := by
 intro t
 induction t with
 |int k =>
  intro cs vs fl y _ h hr
  simp only [unre] at h
  split at h
  ·rename_i k' n
   split at h
   ·rename_i hk
    obtain ⟨rfl, rfl⟩ := Prod.mk.inj (Option.some.inj h)
    obtain ⟨v, rfl, hv⟩ := single_of hr
    rw [rep_v hv, hk]
    rfl
   ·cases h
  ·cases h
 |bool =>
  intro cs vs fl y _ h hr
  simp only [unre] at h
  split at h
  ·obtain ⟨rfl, rfl⟩ := Prod.mk.inj (Option.some.inj h)
   obtain ⟨v, rfl, hv⟩ := single_of hr
   rw [rep_v hv]
   rfl
  ·cases h
 |str =>
  intro cs vs fl y _ h hr
  simp only [unre] at h
  split at h
  ·obtain ⟨rfl, rfl⟩ := Prod.mk.inj (Option.some.inj h)
   obtain ⟨v, rfl, hv⟩ := single_of hr
   rw [rep_v hv]
   rfl
  ·cases h
 |sl e t ih => intro cs vs fl y hf; cases hf
 |pr a b iha ihb =>
  intro cs vs fl y hf h hr
  have hf := Bool.and_eq_true_iff.1 hf
  simp only [unre] at h
  split at h
  ·rename_i x z hx hz
   obtain ⟨rfl, rfl⟩ := Prod.mk.inj (Option.some.inj h)
   have h1 := iha _ _ x.1 x.2 hf.1 hx (take_of hr a.sz)
   have h2 := ihb _ _ z.1 z.2 hf.2 hz (hr.drop a.sz)
   show vs = a.cs x.2 ++ b.cs z.2
   rw [← h1, ← h2, List.take_append_drop]
  ·cases h

theorem cs_one : ∀ (t : Ty) (x : t.S), t.flat = true -> t.isPr = false -> ∃ v, t.cs x = [v] := by
 intro t
 cases t with
 |sl e t => intro x h; cases h
 |pr a b => intro x _ h; cases h
 |_ => exact fun x _ _ => ⟨_, rfl⟩

theorem val_pr {t : Ty} (h : t.isPr = true) (x : t.S) : t.val x = .agg (t.cs x).toArray := by
 unfold Ty.val
 rw [h]

theorem val_one {t : Ty} (h : t.isPr = false) {x : t.S} {v : Value} (hv : t.cs x = [v]) : t.val x = v := by
 unfold Ty.val
 rw [h]
 simp only [hv]
 rfl

theorem flatOf_val {ok : Bool -> Nat -> Prop} {t : Ty} {x : AV} {k : t.S} {v : Value} (h : flatOf ob t x = some k) (hr : RepV w ok β x v) : v = t.val k := by
 unfold flatOf at h
 split at h
 ·rename_i cs hf hc
  split at h
  ·rename_i r hu
   split at h
   ·rename_i hag
    obtain rfl := Option.some.inj h
    unfold cellsO at hc
    split at hc
    ·rename_i l
     split at hc
     ·obtain rfl := Option.some.inj hc
      cases hr with
      |agg l vs hl hcs =>
       have := unre_flat t l vs r.1 r.2 hf hu ⟨hl, hcs⟩
       rw [val_pr hag.symm, this]
     ·cases hc
    ·rename_i vs
     split at hc
     ·obtain rfl := Option.some.inj hc
      have := unre_flat t _ vs.toList r.1 r.2 hf hu (RepL.consts w ok β vs.toList)
      rw [rep_v hr, val_pr hag.symm, ← this]
     ·cases hc
    ·rename_i n1 n2
     split at hc
     ·obtain rfl := Option.some.inj hc
      have hfalse : t.isPr = false := by
       rw [← hag]
       cases hA : aggA x with
       |false => rfl
       |true =>
        clear hc hu
        unfold aggA at hA
        split at hA
        ·exact absurd rfl (n1 _)
        ·exact absurd rfl (n2 _)
        ·cases hA
      have := unre_flat t [x] [v] r.1 r.2 hf hu ⟨rfl, fun i y z hy hz => by
       have hi : i = 0 := by
        have := get_lt hy
        simp at this
        exact this
       subst hi
       simp at hy hz
       subst hy hz
       exact hr⟩
      rw [val_one hfalse this.symm]
     ·cases hc
   ·cases h
  ·cases h
 ·cases h

/-! ### Equality -/

theorem plainT_sz {t : TypeId} {ty : Ty} {n : Nat} (h : plainT P t = true) (ht : tyOf P n t = some ty) : ty.isPr = false ∧ ty.flat = true ∧ ((∃ k, P.underlying t = some (.int k) ∧ ty = .int k) ∨ (P.underlying t = some .bool ∧ ty = .bool) ∨ (P.underlying t = some .string ∧ ty = .str)) := by
 cases n with
 |zero => simp [tyOf] at ht
 |succ n =>
  unfold plainT at h
  unfold tyOf at ht
  split at h
  ·rename_i k hu
   rw [hu] at ht
   obtain rfl := Option.some.inj ht
   exact ⟨rfl, rfl, .inl ⟨k, hu, rfl⟩⟩
  ·rename_i hu
   rw [hu] at ht
   obtain rfl := Option.some.inj ht
   exact ⟨rfl, rfl, .inr (.inl ⟨hu, rfl⟩)⟩
  ·rename_i hu
   rw [hu] at ht
   obtain rfl := Option.some.inj ht
   exact ⟨rfl, rfl, .inr (.inr ⟨hu, rfl⟩)⟩
  ·cases h

theorem eq_plain {t : TypeId} {ty : Ty} {n : Nat} (h : plainT P t = true) (ht : tyOf P n t = some ty) (d : Nat) (w : World) (x y : ty.S) (u v : Value) (hu : ty.cs x = [u]) (hv : ty.cs y = [v]) :
  (Op.equalIn (d + 1) t u v).run P w = .ok (eqS ty x y) w := by
 rcases (plainT_sz h ht).2.2 with ⟨k, h1, rfl⟩ | ⟨h1, rfl⟩ | ⟨h1, rfl⟩
 ·have hu := List.cons.inj hu
  have hv := List.cons.inj hv
  rw [← hu.1, ← hv.1]
  exact run_equalIn_int w d t k k x y h1
 ·have hu := List.cons.inj hu
  have hv := List.cons.inj hv
  rw [← hu.1, ← hv.1]
  exact run_equalIn_bool w d t x y h1
 ·have hu := List.cons.inj hu
  have hv := List.cons.inj hv
  rw [← hu.1, ← hv.1]
  exact run_equalIn_string w d t x y h1

theorem part_plain {t : TypeId} (h : plainT P t = true) {cs : Array Value} {off : Nat} {v : Value} (hv : cs[off]? = some v) (w : World) : (part t cs off).run P w = .ok v w := by
 have hb : isAggT P t = some false := by
  unfold plainT at h
  unfold isAggT
  split at h
  ·rename_i k hu; rw [hu]
  ·rename_i hu; rw [hu]
  ·rename_i hu; rw [hu]
  ·cases h
 simp [part, run_isAgg hb, hv]

theorem plainFs_cons {off : Nat} {f : Field} {fs : List Field} (h : plainFs P off (f :: fs) = true) : f.name ≠ "_" ∧ f.offset = off ∧ plainT P f.type = true ∧ plainFs P (off + 1) fs = true := by
 have h' : (f.name != "_" && f.offset == off && plainT P f.type && plainFs P (off + 1) fs) = true := h
 simp only [Bool.and_eq_true, beq_iff_eq, bne_iff_ne] at h'
 exact ⟨h'.1.1.1, h'.1.1.2, h'.1.2, h'.2⟩

theorem tyAll_cons2 (f : TypeId -> Option Ty) (x y : Field) (r : List Field) : tyOf.tyAll f (x :: y :: r) = match f x.type, tyOf.tyAll f (y :: r) with
  |some a, some b => some (.pr a b)
  |_, _ => none := rfl

theorem eq_fields {n : Nat} (d : Nat) : ∀ (fs : List Field) (off : Nat) (ty : Ty) (x y : ty.S) (xs ys : Array Value), plainFs P off fs = true -> tyOf.tyAll (tyOf P n) fs = some ty -> xs.toList.drop off = ty.cs x -> ys.toList.drop off = ty.cs y →
  ∀ w, (Op.eqFields (d + 1) xs ys fs).run P w = .ok (eqS ty x y) w
 |[], off, ty, x, y, xs, ys, hp, ht, hx, hy => by simp [tyOf.tyAll] at ht
 |[f], off, ty, x, y, xs, ys, hp, ht, hx, hy => by
  intro w
  obtain ⟨hname, hoff, hpl, _⟩ := plainFs_cons hp
  have ht : tyOf P n f.type = some ty := ht
  obtain ⟨h1, h2, _⟩ := plainT_sz hpl ht
  obtain ⟨u, hu⟩ := cs_one ty x h2 h1
  obtain ⟨v, hv⟩ := cs_one ty y h2 h1
  have gx : xs[off]? = some u := by
   have := congrArg (fun l => l[0]?) (hx.trans hu)
   simpa using this
  have gy : ys[off]? = some v := by
   have := congrArg (fun l => l[0]?) (hy.trans hv)
   simpa using this
  rw [← hoff] at gx gy
  simp only [Op.eqFields, if_pos hname, Sem.run_bind, part_plain hpl gx, part_plain hpl gy, Result.andThen_ok, eq_plain hpl ht d w x y u v hu hv]
  cases eqS ty x y <;> rfl
 |f :: f2 :: fs, off, ty, x, y, xs, ys, hp, ht, hx, hy => by
  intro w
  obtain ⟨hname, hoff, hpl, hrest⟩ := plainFs_cons hp
  rw [tyAll_cons2] at ht
  split at ht
  ·rename_i ta tb ha hb
   obtain rfl := Option.some.inj ht
   obtain ⟨h1, h2, _⟩ := plainT_sz hpl ha
   obtain ⟨u, hu⟩ := cs_one ta x.1 h2 h1
   obtain ⟨v, hv⟩ := cs_one ta y.1 h2 h1
   have hx' : xs.toList.drop off = u :: tb.cs x.2 := by
    rw [hx]
    show ta.cs x.1 ++ tb.cs x.2 = _
    rw [hu]
    rfl
   have hy' : ys.toList.drop off = v :: tb.cs y.2 := by
    rw [hy]
    show ta.cs y.1 ++ tb.cs y.2 = _
    rw [hv]
    rfl
   have gx : xs[off]? = some u := by
    have := congrArg (fun l => l[0]?) hx'
    simpa using this
   have gy : ys[off]? = some v := by
    have := congrArg (fun l => l[0]?) hy'
    simpa using this
   have dx : xs.toList.drop (off + 1) = tb.cs x.2 := by
    rw [← List.drop_drop, hx']
    rfl
   have dy : ys.toList.drop (off + 1) = tb.cs y.2 := by
    rw [← List.drop_drop, hy']
    rfl
   rw [← hoff] at gx gy
   have ih := eq_fields d (f2 :: fs) (off + 1) tb x.2 y.2 xs ys hrest hb dx dy w
   simp only [Op.eqFields, if_pos hname, Sem.run_bind, part_plain hpl gx, part_plain hpl gy, Result.andThen_ok, eq_plain hpl ha d w x.1 y.1 u v hu hv] at ih ⊢
   have e : eqS (.pr ta tb) x y = (eqS ta x.1 y.1 && eqS tb x.2 y.2) := rfl
   rw [e]
   cases eqS ta x.1 y.1 with
   |false => rfl
   |true => simpa using ih
  ·cases ht

theorem cmpT_cases {t : TypeId} {ty : Ty} (h : cmpT P t = some ty) : (plainT P t = true ∧ tyOf P 12 t = some ty) ∨
  ∃ fs, P.underlying t = some (.struct fs) ∧ tyOf.tyAll (tyOf P 11) fs.toList = some ty ∧ plainFs P 0 fs.toList = true ∧ ty.isPr = true ∧ P.stoodInHeld t = false ∧ P.eqGuardType P.depth t = false := by
 unfold cmpT at h
 split at h
 ·rename_i k hu
  exact .inl ⟨by unfold plainT; rw [hu], by rw [tyOf, hu]; exact h⟩
 ·rename_i hu
  exact .inl ⟨by unfold plainT; rw [hu], by rw [tyOf, hu]; exact h⟩
 ·rename_i hu
  exact .inl ⟨by unfold plainT; rw [hu], by rw [tyOf, hu]; exact h⟩
 ·rename_i fs hu
  split at h
  ·rename_i ty' ht
   split at h
   ·rename_i hc
    obtain rfl := Option.some.inj h
    simp only [Bool.and_eq_true, Bool.not_eq_true'] at hc
    obtain ⟨⟨⟨h1, h2⟩, h3⟩, h4⟩ := hc
    rw [tyOf, hu] at ht
    exact .inr ⟨fs, hu, ht, h1, h2, h3, h4⟩
   ·cases h
  ·cases h
 ·cases h

theorem equal_val {t : TypeId} {ty : Ty} (h : cmpT P t = some ty) (w : World) (x y : ty.S) : (Op.equal t (ty.val x) (ty.val y)).run P w = .ok (eqS ty x y) w := by
 rcases cmpT_cases h with ⟨h1, h2⟩ | ⟨fs, hu, ht, hp, hpr, hst, hg⟩
 ·obtain ⟨h3, h4, _⟩ := plainT_sz h1 h2
  obtain ⟨u, hu⟩ := cs_one ty x h4 h3
  obtain ⟨v, hv⟩ := cs_one ty y h4 h3
  rw [val_one h3 hu, val_one h3 hv]
  exact eq_plain h1 h2 9999 w x y u v hu hv
 ·rw [val_pr hpr, val_pr hpr]
  have hf : P.fieldsOf t = fs := by simp [Program.fieldsOf, hu]
  show (Op.equalIn (9999 + 1) t _ _).run P w = _
  rw [run_equalIn_struct w 9999 t _ _ (by rw [hf]; exact hu) hst, hf]
  exact eq_fields 9998 fs.toList 0 ty x y _ _ hp ht (by simp) (by simp) w

/-! ### Keys -/

end Go.Ev
