/- A call of the abstract machine is one of the machine's. -/
import Derived.Test.YtjjdadbbiciigaaGreatDoorPoEvMap
namespace Go.Ev
set_option linter.unusedVariables false
set_option linter.unusedSimpArgs false
set_option linter.unusedSectionVars false
variable [TabG]

variable {P : Program} {R : Type} {cx : Cx} {β β' : List Value} {ob ob' : List O} {w w' : World} {σ σ' : St} {a a' : Act}

def Sound (P : Program) (f : FuncId) (S : Sum) : Prop :=
 ∀ {R : Type} (K : AV -> List O -> Option R) (r : R) (args : List AV) (ob : List O), S.run args ob K = some r →
  ∀ (vals : List Value) (w : World) (β : List Value) (rho pb : Nat -> Prop) (disj : ∀ b, rho b -> ¬ pb b),
   WRep ⟨w, rho, pb, β, disj⟩ β ob w -> RepL w (okB ⟨w, rho, pb, β, disj⟩ β ob) β args vals →
   Calls P f vals.toArray w fun e w' => ∃ v x ob' β', e = .returned v ∧ K x ob' = some r ∧ WRep ⟨w, rho, pb, β, disj⟩ β' ob' w' ∧ RepV w' (okB ⟨w, rho, pb, β, disj⟩ β' ob') β' x v

theorem get_map {α γ : Type} {f : α -> γ} {l : List α} {i : Nat} {y : γ} (h : (l.map f)[i]? = some y) : ∃ x, l[i]? = some x ∧ f x = y := by
 rw [List.getElem?_map] at h
 cases hx : l[i]? with
 |none => rw [hx] at h; cases h
 |some x =>
  rw [hx] at h
  exact ⟨x, rfl, Option.some.inj h⟩

theorem RepV.ren {ok ok' : Bool -> Nat -> Prop} {f : Nat -> Option Nat} (hf : ∀ (i j : Nat) (x : Value), f i = some j -> β[i]? = some x -> β'[j]? = some x)
  (hm : ∀ fl b, ok fl b -> b < w.heap.size -> ok' fl b ∧ w'.heap[b]? = w.heap[b]?) : ∀ (n : Nat) (x : AV) (v : Value), RepV w ok β x v -> RepV w' ok' β' (ren f n x) v
 |0, x, val, _ => .un val
 |n + 1, x, val, h => by
  cases h with
  |un => exact .un _
  |v => exact .v _
  |agg l vs hl hc =>
   refine .agg _ vs (by simpa using hl) fun i y z hy hz => ?_
   obtain ⟨y', h1, rfl⟩ := get_map hy
   exact RepV.ren hf hm n y' z (hc i y' z h1 hz)
  |tup l vs hl hc =>
   refine .tup _ vs (by simpa using hl) fun i y z hy hz => ?_
   obtain ⟨y', h1, rfl⟩ := get_map hy
   exact RepV.ren hf hm n y' z (hc i y' z h1 hz)
  |rd s A c hc hr => exact .rd s A c hc (hr.mono (hm s.fl))
  |own i x hx =>
   show RepV w' ok' β' (match f i with | some j => .own j | none => .un) val
   cases hfi : f i with
   |none => exact .un _
   |some j => exact .own j val (hf i j val hfi hx)
  |view i z lo m A0 L c0 A hb hn2 hL hA =>
   show RepV w' ok' β' (match f i with | some j => .view j z lo m | none => .un) _
   cases hfi : f i with
   |none => exact .un _
   |some j => exact .view j z lo m A0 L c0 A (hf i j _ hfi hb) hn2 hL hA
  |ptr i o g hg =>
   show RepV w' ok' β' (match f i with | some j => .ptr j o | none => .un) _
   cases hfi : f i with
   |none => exact .un _
   |some j => exact .ptr j o g (hf i j _ hfi hg)
  |pel s j k ad hj hr => exact .pel s j k ad hj (hr.mono (hm s.fl))
  |poe i z j k g nn c hj hg =>
   show RepV w' ok' β' (match f i with | some q => .poe q z j k | none => .un) _
   cases hfi : f i with
   |none => exact .un _
   |some q => exact .poe q z j k g nn c hj (hf i q _ hfi hg)
  |clo g l vs hl hc =>
   refine .clo g _ vs (by simpa using hl) fun i y z hy hz => ?_
   obtain ⟨y', h1, rfl⟩ := get_map hy
   exact RepV.ren hf hm n y' z (hc i y' z h1 hz)
  |bnd g l vs hl hc =>
   refine .bnd g _ vs (by simpa using hl) fun i y z hy hz => ?_
   obtain ⟨y', h1, rfl⟩ := get_map hy
   exact RepV.ren hf hm n y' z (hc i y' z h1 hz)
  |pbk i o q m j g hg hj =>
   show RepV w' ok' β' (match f i with | some k => .pbk k o q m j | none => .un) _
   cases hfi : f i with
   |none => exact .un _
   |some k => exact .pbk k o q m j g (hf i k _ hfi hg) hj
  |ifc t y z hy => exact .ifc t _ z (RepV.ren hf hm n y z hy)
  |nst i _ vs hg =>
   show RepV w' ok' β' (match f i with | some k => .nst k | none => .un) _
   cases hfi : f i with
   |none => exact .un _
   |some k => exact .nst k _ vs (hf i k _ hfi hg)
  |pns i j g off nn c vs hg hj =>
   show RepV w' ok' β' (match f i with | some k => .pns k j | none => .un) _
   cases hfi : f i with
   |none => exact .un _
   |some k => exact .pns k j g off nn c vs (hf i k _ hfi hg) hj
  |inn i j _ y vs hg hj =>
   show RepV w' ok' β' (match f i with | some k => .inn k j | none => .un) _
   cases hfi : f i with
   |none => exact .un _
   |some k => exact .inn k j _ y vs (hf i k _ hfi hg) hj
  |pin i j z l o g nn c y vs hg hj hl =>
   show RepV w' ok' β' (match f i with | some k => .pin k j z l o | none => .un) _
   cases hfi : f i with
   |none => exact .un _
   |some k => exact .pin k j z l o g nn c y vs (hf i k _ hfi hg) hj hl
  |cel _ hx => exact .cel _ hx
  |pfs i z j o g nn c vs hg hj =>
   show RepV w' ok' β' (match f i with | some k => .pfs k z j o | none => .un) _
   cases hfi : f i with
   |none => exact .un _
   |some k => exact .pfs k z j o g nn c vs (hf i k _ hfi hg) hj
  |fin i j nr r A nn c y vs hg hj =>
   show RepV w' ok' β' (match f i with | some k => .fin k j nr r | none => .un) _
   cases hfi : f i with
   |none => exact .un _
   |some k => exact .fin k j nr r A nn c y vs (hf i k _ hfi hg) hj
  |grn i A nn c hg =>
   show RepV w' ok' β' (match f i with | some k => .grn k | none => .un) _
   cases hfi : f i with
   |none => exact .un _
   |some k => exact .grn k A nn c (hg.imp (hf i k _ hfi) (hf i k _ hfi))

theorem RepL.ren {ok ok' : Bool -> Nat -> Prop} {f : Nat -> Option Nat} (hf : ∀ (i j : Nat) (x : Value), f i = some j -> β[i]? = some x -> β'[j]? = some x)
  (hm : ∀ fl b, ok fl b -> b < w.heap.size -> ok' fl b ∧ w'.heap[b]? = w.heap[b]?) (n : Nat) {l : List AV} {vs : List Value} (h : RepL w ok β l vs) : RepL w' ok' β' (l.map (Ev.ren f n)) vs :=
 ⟨by simpa using h.1, fun i y z hy hz => by
  obtain ⟨y', h1, rfl⟩ := get_map hy
  exact RepV.ren hf hm n y' z (h.2 i y' z h1 hz)⟩

theorem RepV.unf {ok ok' : Bool -> Nat -> Prop} (hm : ∀ fl b, ok fl b -> b < w.heap.size -> ok' false b) : ∀ (n : Nat) (x : AV) (v : Value), RepV w ok β x v -> RepV w ok' β (unf n x) v
 |0, x, val, _ => .un val
 |n + 1, x, val, h => by
  cases h with
  |un => exact .un _
  |v => exact .v _
  |agg l vs hl hc =>
   refine .agg _ vs (by simpa using hl) fun i y z hy hz => ?_
   obtain ⟨y', h1, rfl⟩ := get_map hy
   exact RepV.unf hm n y' z (hc i y' z h1 hz)
  |tup l vs hl hc =>
   refine .tup _ vs (by simpa using hl) fun i y z hy hz => ?_
   obtain ⟨y', h1, rfl⟩ := get_map hy
   exact RepV.unf hm n y' z (hc i y' z h1 hz)
  |rd s A c hc hr => exact .rd ⟨false, s.e, s.t, s.xs⟩ A c hc (hr.mono fun b hb hlt => ⟨hm s.fl b hb hlt, rfl⟩)
  |own i x hx => exact .own i val hx
  |view i z lo m A0 L c0 A hb hn2 hL hA => exact .view i z lo m A0 L c0 A hb hn2 hL hA
  |ptr i o g hg => exact .ptr i o g hg
  |pel s j k ad hj hr => exact .pel ⟨false, s.e, s.t, s.xs⟩ j k ad hj (hr.mono fun b hb hlt => ⟨hm s.fl b hb hlt, rfl⟩)
  |poe i z j k g nn c hj hg => exact .poe i z j k g nn c hj hg
  |clo g l vs hl hc =>
   refine .clo g _ vs (by simpa using hl) fun i y z hy hz => ?_
   obtain ⟨y', h1, rfl⟩ := get_map hy
   exact RepV.unf hm n y' z (hc i y' z h1 hz)
  |bnd g l vs hl hc =>
   refine .bnd g _ vs (by simpa using hl) fun i y z hy hz => ?_
   obtain ⟨y', h1, rfl⟩ := get_map hy
   exact RepV.unf hm n y' z (hc i y' z h1 hz)
  |pbk i o q m j g hg hj => exact .pbk i o q m j g hg hj
  |ifc t y z hy => exact .ifc t _ z (RepV.unf hm n y z hy)
  |nst i _ vs hg => exact .nst i _ vs hg
  |pns i j g off nn c vs hg hj => exact .pns i j g off nn c vs hg hj
  |inn i j _ y vs hg hj => exact .inn i j _ y vs hg hj
  |pin i j z l o g nn c y vs hg hj hl => exact .pin i j z l o g nn c y vs hg hj hl
  |grn i A nn c hg => exact .grn i A nn c hg
  |pfs i z j o g nn c vs hg hj => exact .pfs i z j o g nn c vs hg hj
  |fin i j nr r A nn c y vs hg hj => exact .fin i j nr r A nn c y vs hg hj
  |cel _ hx => exact .cel _ hx

theorem live_ren {f : Nat -> Option Nat} {o : O} (h : (renO f o).live = true) : o.live = true := by cases o <;> first | rfl | exact h
theorem Inner.fl {fl1 fl2 : Bool} {e1 e2 : TypeId} {t : Ty} {xs : List t.S} {vs : List Value} (h : Inner w ⟨fl1, e1, t, xs⟩ vs) : Inner w ⟨fl2, e2, t, xs⟩ vs := by
 intro j u hj
 obtain ⟨q, h1, h2, h3⟩ := h j u hj
 cases t with
 |sl e' t' =>
  simp only [Sq.inn, Option.some.injEq] at h1
  subst h1
  exact ⟨_, rfl, h2, h3⟩
 |_ => cases h1
theorem live_unf (o : O) : (unfO o).live = o.live := by cases o <;> rfl

theorem RepO.ren {cx' : Cx} {ok ok' : Bool -> Nat -> Prop} {f : Nat -> Option Nat} (hf : ∀ (i j : Nat) (x : Value), f i = some j -> β[i]? = some x -> β'[j]? = some x)
  (hm : ∀ fl b, ok fl b -> b < w.heap.size -> ok' fl b ∧ w'.heap[b]? = w.heap[b]?) (hcx : cx'.w0.heap.size ≤ cx.w0.heap.size) {o : O} {x : Value}
  (hb : o.live = true -> ∀ b, blk x b -> w'.heap[b]? = w.heap[b]?) (h : RepO cx w ok β o x) : RepO cx' w' ok' β' (renO f o) x := by
 cases o with
 |box ty cs =>
  obtain ⟨g, vs, rfl, hg, hr⟩ := h
  exact ⟨g, vs, rfl, (hb rfl g rfl).trans hg, hr.ren hf hm 4⟩
 |row s =>
  obtain ⟨cells, ho, hfr, hc⟩ := h
  exact ⟨cells, ownsRow_move ho (hb rfl), fun hfl b hb => Nat.le_trans hcx (hfr hfl b hb), fun j y hy => let ⟨cs, h1, h2⟩ := hc j y hy; ⟨cs, h1.mono (hm s.fl), h2⟩⟩
 |frz s =>
  obtain ⟨A, c, rfl, hc, hr⟩ := h
  exact ⟨A, c, rfl, hc, hr.mono (hm s.fl)⟩
 |gone => trivial
 |frn s =>
  obtain ⟨y, vs, A, c, rfl, rfl, hc, hr⟩ := h
  exact ⟨_, vs, A, c, rfl, rfl, hc, hr.mono (hm s.fl)⟩
 |nst s =>
  obtain ⟨y, vs, rfl, hl, hz, ho, hin, hfr, hd⟩ := h
  exact ⟨y, vs, rfl, hl, hz, ho.move fun b h1 => hb rfl b (blk_tuple.2 ⟨y, List.mem_cons_self, h1⟩), hin.move fun u hu b h1 => hb rfl b (blk_tuple.2 ⟨u, List.mem_cons_of_mem _ hu, h1⟩), fun hfl b hb => Nat.le_trans hcx (hfr hfl b hb), hd⟩
 |fst s n =>
  obtain ⟨y, vs, cells, rfl, ho, hl, hin, hc, hfr, hd⟩ := h
  have hv : ∀ u ∈ vs, ∀ b, blk1 u = some b -> w'.heap[b]? = w.heap[b]? := fun u hu b h1 => hb rfl b (blk_tuple.2 ⟨u, List.mem_cons_of_mem _ hu, h1⟩)
  exact ⟨y, vs, cells, rfl, ownsRow_move ho fun b h1 => hb rfl b (blk_tuple.2 ⟨y, List.mem_cons_self, (own_blk1 ho b).1 h1⟩), hl, hin.move hv, fun j el h1 h2 => (hc j el h1 h2).move fun u hu => hv u (sub_mem hu), fun hfl b hb => Nat.le_trans hcx (hfr hfl b hb), hd⟩
 |grn i j e z m =>
  show RepO cx' w' ok' β' (match f i with | some k => .grn k j e z m | none => .gone) x
  cases hfi : f i with
  |none => trivial
  |some k =>
   rcases h with ⟨cells, ho⟩ | ⟨A, c, n, y, vs, rfl, h1, h2⟩
   ·exact .inl ⟨cells, ownsRow_move ho (hb rfl)⟩
   ·exact .inr ⟨A, c, n, y, vs, rfl, hf i k _ hfi h1, h2⟩

theorem RepO.unf {cx' : Cx} {ok ok' : Bool -> Nat -> Prop} (hm : ∀ fl b, ok fl b -> b < w.heap.size -> ok' false b) {o : O} {x : Value} (h : RepO cx w ok β o x) : RepO cx' w ok' β (unfO o) x := by
 cases o with
 |box ty cs =>
  obtain ⟨g, vs, rfl, hg, hr⟩ := h
  refine ⟨g, vs, rfl, hg, by simpa using hr.1, fun i y z hy hz => ?_⟩
  obtain ⟨y', h1, rfl⟩ := get_map hy
  exact RepV.unf hm 4 y' z (hr.2 i y' z h1 hz)
 |row s =>
  obtain ⟨cells, ho, hfr, hc⟩ := h
  exact ⟨cells, ho, fun hfl => by simp at hfl, fun j y hy => let ⟨cs, h1, h2⟩ := hc j y hy; ⟨cs, h1.mono fun b hb hlt => ⟨hm s.fl b hb hlt, rfl⟩, h2⟩⟩
 |frz s =>
  obtain ⟨A, c, rfl, hc, hr⟩ := h
  exact ⟨A, c, rfl, hc, hr.mono fun b hb hlt => ⟨hm s.fl b hb hlt, rfl⟩⟩
 |gone => trivial
 |frn s =>
  obtain ⟨y, vs, A, c, rfl, rfl, hc, hr⟩ := h
  exact ⟨_, vs, A, c, rfl, rfl, hc, hr.mono fun b hb hlt => ⟨hm s.fl b hb hlt, rfl⟩⟩
 |nst s =>
  obtain ⟨y, vs, rfl, hl, hz, ho, hin, hfr, hd⟩ := h
  exact ⟨y, vs, rfl, hl, hz, ho, hin.fl, fun hfl => by simp at hfl, hd⟩
 |grn i j e z m => exact h
 |fst s n =>
  obtain ⟨y, vs, cells, rfl, ho, hl, hin, hc, hfr, hd⟩ := h
  exact ⟨y, vs, cells, rfl, ho, hl, hin, hc, fun hfl => by simp at hfl, hd⟩

/-! ### Numbers -/

theorem idx_some : ∀ {l : List Nat} {i j : Nat}, idx l i = some j -> l[j]? = some i
 |[], i, j, h => by simp [idx] at h
 |x :: xs, i, j, h => by
  simp only [idx] at h
  split at h
  ·rename_i hx
   obtain rfl := Option.some.inj h
   simp [hx]
  ·split at h
   ·rename_i k hk
    obtain rfl := Option.some.inj h
    simpa using idx_some hk
   ·cases h

theorem reach_nodup (ob : List O) : ∀ (n : Nat) (todo acc : List Nat), acc.Nodup -> (reach ob n todo acc).Nodup
 |0, todo, acc, h => by cases todo <;> exact h
 |n + 1, [], acc, h => h
 |n + 1, i :: todo, acc, h => by
  simp only [reach]
  split
  ·exact reach_nodup ob n todo acc h
  ·rename_i hc
   refine reach_nodup ob n _ _ ?_
   rw [List.nodup_append]
   refine ⟨h, by simp, fun x hx y hy => ?_⟩
   simp at hy
   subst hy
   intro e
   subst e
   exact hc (by simpa using hx)

theorem nodup_get {l : List Nat} (h : l.Nodup) {i j x : Nat} (hi : l[i]? = some x) (hj : l[j]? = some x) : i = j := by
 have hi' := get_lt hi
 have hj' := get_lt hj
 rw [List.getElem?_eq_getElem hi'] at hi
 rw [List.getElem?_eq_getElem hj'] at hj
 exact (List.getElem_inj h).1 ((Option.some.inj hi).trans (Option.some.inj hj).symm)

theorem writeBack_len (f : Nat -> Option Nat) : ∀ (l : List Nat) (os ob : List O), (writeBack f l os ob).length = ob.length
 |[], _, _ => by simp [writeBack]
 |_ :: _, [], _ => by simp [writeBack]
 |i :: l, o :: os, ob => by rw [writeBack, writeBack_len f l os]; simp

theorem writeBack_out (f : Nat -> Option Nat) {k : Nat} : ∀ (l : List Nat) (os ob : List O), k ∉ l -> (writeBack f l os ob)[k]? = ob[k]?
 |[], _, _, _ => by simp [writeBack]
 |_ :: _, [], _, _ => by simp [writeBack]
 |i :: l, o :: os, ob, h => by
  rw [writeBack, writeBack_out f l os _ (fun hk => h (List.mem_cons_of_mem _ hk))]
  rw [List.getElem?_set, if_neg (fun e => h (by simp [e]))]

theorem keepFl_live (p : Option O) (o : O) : (keepFl p o).live = o.live := by
 unfold keepFl
 split <;> rfl
theorem RepO.keep {ok : Bool -> Nat -> Prop} {p : Option O} {o : O} {x : Value} (h : RepO cx w ok β o x)
  (hr : ∀ s, p = some (.row s) -> s.fl = true -> ∀ b, blk x b -> cx.w0.heap.size ≤ b) (hn : ∀ s, p = some (.nst s) -> s.fl = true -> ∀ b, blk x b -> cx.w0.heap.size ≤ b) : RepO cx w ok β (keepFl p o) x := by
 unfold keepFl
 split
 ·rename_i s s'
  obtain ⟨cells, ho, hf, hc⟩ := h
  refine ⟨cells, ho, fun hfl b hb => ?_, fun j y hy => ?_⟩
  ·simp only [Bool.or_eq_true, Bool.and_eq_true] at hfl
   rcases hfl with h | h
   ·exact hf h b hb
   ·exact hr s rfl h.1 b hb
  ·obtain ⟨cs, h1, h2⟩ := hc j y hy
   refine ⟨cs, ?_, h2⟩
   cases hfl : s'.fl with
   |true =>
    rw [hfl] at h1
    simpa using h1
   |false =>
    cases hfl2 : (s.fl && s'.t.flat) with
    |false =>
     rw [hfl] at h1
     simpa using h1
    |true => exact h1.of_flat (Bool.and_eq_true_iff.1 hfl2).2
 ·rename_i s s'
  obtain ⟨y, vs, rfl, hl, hz, ho, hin, hfr, hd⟩ := h
  refine ⟨y, vs, rfl, hl, hz, ho, hin.fl, fun hfl b hb => ?_, hd⟩
  simp only [Bool.or_eq_true] at hfl
  rcases hfl with h | h
  ·exact hfr h b hb
  ·exact hn s rfl h b hb
 ·exact h

theorem writeBack_in (f : Nat -> Option Nat) : ∀ (l : List Nat) (os ob : List O) (j k : Nat) (o : O), l.Nodup -> l[j]? = some k -> os[j]? = some o -> k < ob.length -> (writeBack f l os ob)[k]? = some (keepFl ob[k]? (renO f o))
 |[], _, _, j, k, o, _, h, _, _ => by simp at h
 |_ :: _, [], _, j, k, o, _, _, h, _ => by simp at h
 |i :: l, o' :: os, ob, 0, k, o, hn, h, ho, hk => by
  simp at h ho
  subst h ho
  rw [writeBack, writeBack_out f l os _ (List.nodup_cons.1 hn).1]
  rw [List.getElem?_set, if_pos rfl, if_pos hk]
 |i :: l, o' :: os, ob, j + 1, k, o, hn, h, ho, hk => by
  rw [writeBack]
  have hik : i ≠ k := fun e => (List.nodup_cons.1 hn).1 (by rw [e]; exact List.mem_of_getElem? (by simpa using h))
  rw [writeBack_in f l os _ j k o (List.nodup_cons.1 hn).2 (by simpa using h) (by simpa using ho) (by simpa using hk), List.getElem?_set, if_neg hik]

end Go.Ev
