/- A call of the abstract machine is one of the machine's: what is handed over, what comes back. -/
import Derived.Test.YtjjdadbbiciigaaGreatDoorPoEvCall
namespace Go.Ev
set_option linter.unusedVariables false
set_option linter.unusedSimpArgs false
set_option linter.unusedSectionVars false
variable [tG : TabG]

variable {P : Program} {R : Type} {cx : Cx} {β β' : List Value} {ob ob' : List O} {w w' : World} {σ σ' : St} {a a' : Act}

def BV (β : List Value) (ob : List O) (bv : List Nat) (b : Nat) : Prop :=
 ∃ (i : Nat) (o : O) (x : Value), i ∈ bv ∧ ob[i]? = some o ∧ o.isR = true ∧ β[i]? = some x ∧ blk x b

def okV (cx : Cx) (β : List Value) (ob : List O) (bv : List Nat) (fl : Bool) (b : Nat) : Prop := okB cx β ob fl b ∨ (fl = false ∧ BV β ob bv b)

theorem conv1_rep (hW : WRep cx β ob w) {bv : List Nat} {t : Option TypeId} {x : AV} {v : Value} (h : RepV w (okB cx β ob) β x v) : RepV w (okV cx β ob bv) β (conv1 P ob bv t x) v := by
 have weak : RepV w (okV cx β ob bv) β x v := h.mono (fun fl b hb _ => ⟨.inl hb, rfl⟩) fun _ _ h => h
 unfold conv1
 split
 ·rename_i i
  split
  ·rename_i hi
   split
   ·rename_i s hs
    cases h with
    |own _ _ hb =>
     obtain ⟨A, c, rfl, hc, hrow⟩ := own_slice hW hs hb
     rcases seen_own hs with hob | hob
     ·exact .rd ⟨false, s.e, s.t, s.xs⟩ A c hc (hrow _ (fun b hb _ => .inl (hb.weaken (fl' := false) (fun h => by cases h))) fun b hbk => .inr ⟨rfl, i, _, _, by simpa using hi, hob, rfl, hb, hbk⟩)
     ·obtain ⟨A', c', e, _, hr⟩ := hW.obj i _ _ hob hb
      obtain ⟨rfl, _, rfl⟩ := Value.slice.inj e
      exact .rd ⟨false, s.e, s.t, s.xs⟩ A c hc (hr.mono fun b hb _ => ⟨.inl (hb.weaken (fl' := false) (fun h => by cases h)), rfl⟩)
   ·exact .un v
  ·exact .un v
 ·rename_i i z lo n
  split
  ·rename_i hi
   split
   ·rename_i s' hs
    obtain ⟨s, x, A, c, h1, h2, rfl, hn, hb, rfl, hc, hrow⟩ := view_slice hW hs h
    have hl := sub_len hn
    have h3 : RowR w (okV cx β ob bv false) (s.sub lo n).t (s.sub lo n).xs A := by
     rcases seen_own h1 with hob | hob
     ·exact hrow _ (fun b hb _ => .inl (hb.weaken (fl' := false) (fun h => by cases h))) fun b hbk => .inr ⟨rfl, i, _, _, by simpa using hi, hob, rfl, hb, hbk⟩
     ·obtain ⟨A', c', e, _, hr⟩ := hW.obj i _ _ hob hb
      cases h with
      |view _ _ _ _ A0 L c0 A hb' hn' hL hA =>
       rw [hb] at hb'
       rw [e] at hb'
       obtain ⟨rfl, rfl, rfl⟩ := Value.slice.inj (Option.some.inj hb')
       rcases hA with rfl | ⟨e1, e2⟩
       ·rw [← h2]
        exact (RowR.sub hr hn).mono fun b hb _ => ⟨.inl (hb.weaken (fl' := false) (fun h => by cases h)), rfl⟩
       ·intro hpos
        rw [hl] at hpos
        omega
    have h4 := RepV.rd (w := w) (ok := okV cx β ob bv) (β := β) ⟨false, (s.sub lo n).e, (s.sub lo n).t, (s.sub lo n).xs⟩ A c (Nat.le_trans (Nat.le_of_eq hl) hc) h3
    have e : (⟨false, (s.sub lo n).e, (s.sub lo n).t, (s.sub lo n).xs⟩ : Sq).xs.length = n := hl
    rw [e] at h4
    exact h4
   ·exact .un v
  ·exact .un v
 ·rename_i i
  split
  ·rename_i hi
   split
   ·rename_i s hs
    obtain ⟨x, A, c, hb, rfl, hc, hrow⟩ := nst_slice hW hs h
    rcases seenN_nst hs with hob | hob | hob
    ·exact .rd ⟨false, s.e, s.t, s.xs⟩ A c hc (hrow _ (fun b hb _ => .inl (hb.weaken (fl' := false) (fun h => by cases h))) fun b hbk => .inr ⟨rfl, i, _, _, by simpa using hi, hob, rfl, hb, hbk⟩)
    ·cases h with
     |nst _ _ vs hb' =>
      obtain ⟨y, vs', A', c', e, hy, hc', hr⟩ := hW.obj i _ _ hob hb'
      have e := List.cons.inj (by simpa using e : Value.slice A s.xs.length c :: vs = y :: vs')
      obtain ⟨rfl, rfl⟩ := e
      obtain ⟨rfl, _, rfl⟩ := Value.slice.inj hy
      exact .rd ⟨false, s.e, s.t, s.xs⟩ A c hc (hr.mono fun b hb _ => ⟨.inl (hb.weaken (fl' := false) (fun h => by cases h)), rfl⟩)
    ·exact .rd ⟨false, s.e, s.t, s.xs⟩ A c hc (hrow _ (fun b hb _ => .inl (hb.weaken (fl' := false) (fun h => by cases h))) fun b hbk => .inr ⟨rfl, i, _, _, by simpa using hi, hob, rfl, hb, hbk⟩)
   ·exact .un v
  ·exact .un v
 ·rename_i i j
  split
  ·rename_i hi
   split
   ·rename_i q hq
    obtain ⟨s, hob, hqi⟩ := innAt_some hq
    obtain ⟨hown, hf⟩ := inn_own hW hob hqi h
    cases h with
    |inn _ _ _ y vs hb hj =>
     obtain ⟨A, c, rfl, hc, hrow⟩ := hown.reads (ok' := okV cx β ob bv false) hf fun b hbk => .inr ⟨rfl, i, _, _, by simpa using hi, hob, rfl, hb, blk_tuple.2 ⟨_, List.mem_cons_of_mem _ (List.mem_of_getElem? hj), by
      obtain ⟨cells, ho, _⟩ := hown
      exact (own_blk1 ho b).1 hbk⟩⟩
     exact .rd ⟨false, q.e, q.t, q.xs⟩ A c hc hrow
   ·exact .un v
  ·exact .un v
 ·exact .un v
 ·exact .un v
 ·exact .un v
 ·exact .un v
 ·exact .un v
 ·split
  ·rename_i hn
   split
   ·rename_i i _
    rw [isNil_eq hn] at h
    rw [rep_v h]
    exact .rd ⟨false, i.e, i.t, []⟩ none 0 (Nat.le_refl _) fun h0 => absurd h0 (Nat.lt_irrefl 0)
   ·exact weak
  ·exact weak

theorem convL_rep (hW : WRep cx β ob w) {bv : List Nat} : ∀ (ts : List (Option TypeId)) (l : List AV) (vs : List Value), RepL w (okB cx β ob) β l vs -> RepL w (okV cx β ob bv) β (convL P ob bv ts l) vs
 |ts, [], vs, h => by
  have e : convL P ob bv ts [] = [] := by cases ts <;> rfl
  rw [e]
  exact ⟨h.1, fun i x y hx => by simp at hx⟩
 |ts, x :: l, [], h => by simp [RepL] at h
 |[], x :: l, v :: vs, h => by
  have ih := convL_rep hW [] l vs ⟨by simpa using h.1, fun i x y hx hy => h.2 (i + 1) x y (by simpa using hx) (by simpa using hy)⟩ (bv := bv)
  refine ⟨by simp [convL, ih.1], fun i y z hy hz => ?_⟩
  cases i with
  |zero =>
   simp [convL] at hy hz
   subst hy hz
   exact conv1_rep hW (h.2 0 _ _ rfl rfl)
  |succ i => exact ih.2 i y z (by simpa [convL] using hy) (by simpa using hz)
 |t :: ts, x :: l, v :: vs, h => by
  have ih := convL_rep hW ts l vs ⟨by simpa using h.1, fun i x y hx hy => h.2 (i + 1) x y (by simpa using hx) (by simpa using hy)⟩ (bv := bv)
  refine ⟨by simp [convL, ih.1], fun i y z hy hz => ?_⟩
  cases i with
  |zero =>
   simp [convL] at hy hz
   subst hy hz
   exact conv1_rep hW (h.2 0 _ _ rfl rfl)
  |succ i => exact ih.2 i y z (by simpa [convL] using hy) (by simpa using hz)

theorem conv_rep (hW : WRep cx β ob w) {bv : List Nat} : ∀ (n : Nat) (t : TypeId) (x : AV) (v : Value), RepV w (okB cx β ob) β x v -> RepV w (okV cx β ob bv) β (conv P ob bv n t x) v
 |0, t, x, v, _ => .un v
 |n + 1, t, x, v, h => by
  simp only [conv]
  split
  ·rename_i l
   cases h with
   |agg _ vs hl hc =>
    have := convL_rep (P := P) (bv := bv) hW (flatT P 12 t) l vs ⟨hl, hc⟩
    exact .agg _ vs this.1 this.2
  ·rename_i cs
   rw [rep_v h]
   have := convL_rep (P := P) (bv := bv) hW (flatT P 12 t) _ _ (RepL.consts w (okB cx β ob) β cs.toList)
   have e := RepV.agg (w := w) (ok := okV cx β ob bv) (β := β) _ cs.toList this.1 this.2
   simpa using e
  ·cases h with
   |ifc _ _ z hz => exact .ifc _ _ z (conv_rep hW n _ _ z hz)
  ·exact conv1_rep hW h

theorem convs_rep (hW : WRep cx β ob w) {bv own : List Nat} : ∀ (n : Nat) (ts : List TypeId) (l : List AV) (vs : List Value), RepL w (okB cx β ob) β l vs -> RepL w (okV cx β ob bv) β (convs P ob bv own n ts l) vs
 |n, ts, [], vs, h => by
  have e : convs P ob bv own n ts [] = [] := by cases ts <;> rfl
  rw [e]
  exact ⟨h.1, fun i x y hx => by simp at hx⟩
 |n, ts, x :: l, [], h => by simp [RepL] at h
 |n, [], x :: l, v :: vs, h => by
  have ih := convs_rep (bv := bv) (own := own) hW (n + 1) [] l vs ⟨by simpa using h.1, fun i x y hx hy => h.2 (i + 1) x y (by simpa using hx) (by simpa using hy)⟩
  refine ⟨by simp [convs, ih.1], fun i y z hy hz => ?_⟩
  cases i with
  |zero =>
   simp only [convs, List.getElem?_cons_zero, Option.some.injEq] at hy hz
   subst hy hz
   have h0 := h.2 0 _ _ rfl rfl
   split
   ·exact h0.mono (fun fl b hb _ => ⟨.inl hb, rfl⟩) fun _ _ h => h
   ·exact conv_rep hW 4 0 _ _ h0
  |succ i => exact ih.2 i y z (by simpa [convs] using hy) (by simpa using hz)
 |n, t :: ts, x :: l, v :: vs, h => by
  have ih := convs_rep (bv := bv) (own := own) hW (n + 1) ts l vs ⟨by simpa using h.1, fun i x y hx hy => h.2 (i + 1) x y (by simpa using hx) (by simpa using hy)⟩
  refine ⟨by simp [convs, ih.1], fun i y z hy hz => ?_⟩
  cases i with
  |zero =>
   simp only [convs, List.getElem?_cons_zero, Option.some.injEq] at hy hz
   subst hy hz
   have h0 := h.2 0 _ _ rfl rfl
   split
   ·exact h0.mono (fun fl b hb _ => ⟨.inl hb, rfl⟩) fun _ _ h => h
   ·exact conv_rep hW 4 t _ _ h0
  |succ i => exact ih.2 i y z (by simpa [convs] using hy) (by simpa using hz)

/-! ### What is told only of fresh memory -/

theorem fresh_only {ok : Bool -> Nat -> Prop} : ∀ (n : Nat) (x : AV) (v : Value), fresh n x = true -> RepV w ok β x v -> RepV w (fun fl b => fl = true ∧ ok fl b) β x v
 |0, x, v, h, _ => by simp [fresh] at h
 |n + 1, x, val, hf, h => by
  cases h with
  |un => exact .un _
  |v => exact .v _
  |agg l vs hl hc => exact .agg l vs hl fun i y z hy hz => fresh_only n y z (List.all_eq_true.1 (by simpa [fresh] using hf) y (List.mem_of_getElem? hy)) (hc i y z hy hz)
  |tup l vs hl hc => exact .tup l vs hl fun i y z hy hz => fresh_only n y z (List.all_eq_true.1 (by simpa [fresh] using hf) y (List.mem_of_getElem? hy)) (hc i y z hy hz)
  |rd s A c hc hr =>
   have hs : s.fl = true := by simpa [fresh] using hf
   exact .rd s A c hc (hr.mono fun b hb _ => ⟨⟨hs, hb⟩, rfl⟩)
  |own i x hx => exact .own i val hx
  |view i z lo m A0 L c0 A hb hn2 hL hA => exact .view i z lo m A0 L c0 A hb hn2 hL hA
  |ptr i o g hg => exact .ptr i o g hg
  |pel s j k ad hj hr =>
   have hs : s.fl = true := by simpa [fresh] using hf
   exact .pel s j k ad hj (hr.mono fun b hb _ => ⟨⟨hs, hb⟩, rfl⟩)
  |poe i z j k g nn c hj hg => exact .poe i z j k g nn c hj hg
  |clo g l vs hl hc => exact .clo g l vs hl fun i y z hy hz => fresh_only n y z (List.all_eq_true.1 (by simpa [fresh] using hf) y (List.mem_of_getElem? hy)) (hc i y z hy hz)
  |bnd g l vs hl hc => exact .bnd g l vs hl fun i y z hy hz => fresh_only n y z (List.all_eq_true.1 (by simpa [fresh] using hf) y (List.mem_of_getElem? hy)) (hc i y z hy hz)
  |ifc t y z hy => exact .ifc t y z (fresh_only n y z (by simpa [fresh] using hf) hy)
  |nst i _ vs hg => exact .nst i _ vs hg
  |pns i j g off nn c vs hg hj => exact .pns i j g off nn c vs hg hj
  |inn i j _ y vs hg hj => exact .inn i j _ y vs hg hj
  |pin i j z l o g nn c y vs hg hj hl => exact .pin i j z l o g nn c y vs hg hj hl
  |grn i A nn c hg => exact .grn i A nn c hg
  |pfs i z j o g nn c vs hg hj => exact .pfs i z j o g nn c vs hg hj
  |fin i j nr r A nn c y vs hg hj => exact .fin i j nr r A nn c y vs hg hj
  |pbk i o q m j g hg hj => exact .pbk i o q m j g hg hj
  |cel _ hx => exact .cel _ hx

theorem freshO_only {ok : Bool -> Nat -> Prop} {o : O} {x : Value} (hf : freshO o = true) (h : RepO cx w ok β o x) : RepO cx w (fun fl b => fl = true ∧ ok fl b) β o x := by
 cases o with
 |box ty cs =>
  obtain ⟨g, vs, rfl, hg, hr⟩ := h
  exact ⟨g, vs, rfl, hg, hr.1, fun i y z hy hz => fresh_only 4 y z (List.all_eq_true.1 (by simpa [freshO] using hf) y (List.mem_of_getElem? hy)) (hr.2 i y z hy hz)⟩
 |row s =>
  obtain ⟨cells, ho, hfr, hc⟩ := h
  have hs : s.fl = true ∨ s.t.flat = true := by simpa [freshO] using hf
  refine ⟨cells, ho, hfr, fun j y hy => let ⟨cs, h1, h2⟩ := hc j y hy; ⟨cs, ?_, h2⟩⟩
  rcases hs with hs | hs
  ·exact h1.mono fun b hb _ => ⟨⟨hs, hb⟩, rfl⟩
  ·exact h1.of_flat hs
 |frz s =>
  obtain ⟨A, c, rfl, hc, hr⟩ := h
  have hs : s.fl = true := by simpa [freshO] using hf
  exact ⟨A, c, rfl, hc, hr.mono fun b hb _ => ⟨⟨hs, hb⟩, rfl⟩⟩
 |gone => trivial
 |frn s =>
  obtain ⟨y, vs, A, c, rfl, rfl, hc, hr⟩ := h
  have hs : s.fl = true := by simpa [freshO] using hf
  exact ⟨_, vs, A, c, rfl, rfl, hc, hr.mono fun b hb _ => ⟨⟨hs, hb⟩, rfl⟩⟩
 |nst s => exact h
 |grn i j e z m => exact h
 |fst s n => exact h

def O.froz : O -> Bool
 |.frz _ => true
 |.frn _ => true
 |_ => false

theorem O.froz_dead {o : O} (h : o.froz = true) : o.live = false := by cases o <;> simp_all [O.froz, O.live]
theorem O.froz_isR {o : O} (h : o.froz = true) : o.isR = false := by cases o <;> simp_all [O.froz, O.isR]
theorem O.live_isR {o : O} (h : o.isR = true) : o.live = true := by cases o <;> first | rfl | cases h
theorem freezeAt_get (ob : List O) (i k : Nat) : (freezeAt ob i)[k]? = ob[k]? ∨ (k = i ∧ (∃ o', ob[k]? = some o' ∧ o'.isR = true) ∧ ∃ o, (freezeAt ob i)[k]? = some o ∧ o.froz = true) := by
 rcases freezeAt_cases ob i with e | ⟨s, h1, e⟩ | ⟨s, h1, e⟩ | ⟨s, h1, e⟩ <;> rw [e]
 ·exact .inl rfl
 ·rw [List.getElem?_set]
  split
  ·rename_i hik
   subst hik
   rw [if_pos (get_lt h1)]
   exact .inr ⟨rfl, ⟨_, h1, rfl⟩, _, rfl, rfl⟩
  ·exact .inl rfl
 ·rw [List.getElem?_set]
  split
  ·rename_i hik
   subst hik
   rw [if_pos (get_lt h1)]
   exact .inr ⟨rfl, ⟨_, h1, rfl⟩, _, rfl, rfl⟩
  ·exact .inl rfl
 ·rw [List.getElem?_set]
  split
  ·rename_i hik
   subst hik
   rw [if_pos (get_lt h1)]
   exact .inr ⟨rfl, ⟨_, h1, rfl⟩, _, rfl, rfl⟩
  ·exact .inl rfl

theorem freezeAt_done (ob : List O) (i : Nat) {o : O} (h : (freezeAt ob i)[i]? = some o) : o.isR = false := by
 rcases freezeAt_get ob i i with e | ⟨_, _, o', h1, h2⟩
 ·unfold freezeAt at h
  split at h
  ·rename_i s hs
   rw [List.getElem?_set, if_pos rfl] at h
   split at h
   ·obtain rfl := Option.some.inj h
    rfl
   ·cases h
  ·rename_i s hs
   rw [List.getElem?_set, if_pos rfl] at h
   split at h
   ·obtain rfl := Option.some.inj h
    rfl
   ·cases h
  ·rename_i s hs
   rw [List.getElem?_set, if_pos rfl] at h
   split at h
   ·obtain rfl := Option.some.inj h
    rfl
   ·cases h
  ·rename_i h1 h2 h3
   cases o with
   |row s => exact absurd h (h1 s)
   |nst s => exact absurd h (h2 s)
   |fst s n => cases n with
    |zero => exact absurd h (h3 s)
    |succ n => rfl
   |_ => rfl
 ·rw [h1] at h
  obtain rfl := Option.some.inj h
  exact O.froz_isR h2

theorem freeze1_get (ob : List O) (x : AV) (k : Nat) : (freeze1 ob x)[k]? = ob[k]? ∨ ∃ o, (freeze1 ob x)[k]? = some o ∧ o.froz = true := by
 have key : ∀ i, (freezeAt ob i)[k]? = ob[k]? ∨ ∃ o, (freezeAt ob i)[k]? = some o ∧ o.froz = true := fun i => (freezeAt_get ob i k).imp id fun h => h.2.2
 unfold freeze1
 split
 ·exact key _
 ·exact key _
 ·exact key _
 ·exact .inl rfl

theorem freezeL_get : ∀ (l : List AV) (ob : List O) (k : Nat), (freezeL ob l)[k]? = ob[k]? ∨ ∃ o, (freezeL ob l)[k]? = some o ∧ o.froz = true
 |[], ob, k => .inl rfl
 |x :: l, ob, k => by
  rw [freezeL]
  rcases freezeL_get l (freeze1 ob x) k with h | h
  ·rw [h]
   exact freeze1_get ob x k
  ·exact .inr h

theorem freezeL_done : ∀ (l : List Nat) (ob : List O) (i : Nat) (o : O), i ∈ l -> (freezeL ob (l.map AV.own))[i]? = some o -> o.isR = false
 |[], _, _, _, h => by simp at h
 |j :: l, ob, i, o, h => by
  rw [List.map_cons, freezeL]
  rcases List.mem_cons.1 h with rfl | h
  ·intro hc
   rcases freezeL_get (l.map AV.own) (freeze1 ob (.own i)) i with h1 | ⟨q, h1, h2⟩
   ·rw [h1] at hc
    exact freezeAt_done ob i hc
   ·rw [h1] at hc
    obtain rfl := Option.some.inj hc
    exact O.froz_isR h2
  ·exact freezeL_done l _ i o h

theorem freezeL_only : ∀ (l : List Nat) (ob : List O) (k : Nat) (o : O), (freezeL ob (l.map AV.own))[k]? = some o -> ob[k]? = some o ∨ (k ∈ l ∧ ∃ o', ob[k]? = some o' ∧ o'.isR = true)
 |[], ob, k, s, h => .inl h
 |j :: l, ob, k, s, h => by
  rw [List.map_cons, freezeL] at h
  have e : freeze1 ob (.own j) = freezeAt ob j := rfl
  rw [e] at h
  rcases freezeL_only l _ k s h with h1 | ⟨h1, o', h2, h3⟩
  ·rcases freezeAt_get ob j k with e | ⟨rfl, h4, _⟩
   ·rw [e] at h1
    exact .inl h1
   ·exact .inr ⟨List.mem_cons_self, h4⟩
  ·rcases freezeAt_get ob j k with e | ⟨rfl, h4, _⟩
   ·rw [e] at h2
    exact .inr ⟨List.mem_cons_of_mem _ h1, o', h2, h3⟩
   ·exact .inr ⟨List.mem_cons_self, h4⟩

end Go.Ev
