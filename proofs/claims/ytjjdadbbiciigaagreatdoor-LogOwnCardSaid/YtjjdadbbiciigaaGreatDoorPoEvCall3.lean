/- A call of the abstract machine is one of the machine's. -/
import Derived.Test.YtjjdadbbiciigaaGreatDoorPoEvCall2
namespace Go.Ev
set_option linter.unusedVariables false
set_option linter.unusedSimpArgs false
set_option linter.unusedSectionVars false
variable [tG : TabG]

variable {P : Program} {R : Type} {cx : Cx} {β β' : List Value} {ob ob' : List O} {w w' : World} {σ σ' : St} {a a' : Act}

def PB (β : List Value) (ob : List O) (l : List Nat) (b : Nat) : Prop :=
 ∃ (i : Nat) (o : O) (x : Value), i ∈ l ∧ ob[i]? = some o ∧ o.live = true ∧ β[i]? = some x ∧ blk x b

def rho1 (cx : Cx) (β : List Value) (ob : List O) (l bv : List Nat) (w : World) (b : Nat) : Prop :=
 ¬ PB β ob l b ∧ b < w.heap.size ∧ (okB cx β ob false b ∨ BV β ob bv b)

def cx1 (cx : Cx) (β : List Value) (ob : List O) (l bv : List Nat) (w : World) : Cx :=
 ⟨w, rho1 cx β ob l bv w, PB β ob l, l.map fun i => β.getD i undef, fun _ h => h.1⟩

theorem PB.live {l : List Nat} {b : Nat} (h : PB β ob l b) : LiveB β ob b := by
 obtain ⟨i, o, x, _, h1, h2, h3, h4⟩ := h
 exact ⟨i, o, x, h1, h2, h3, h4⟩

theorem BV.live {l : List Nat} {b : Nat} (h : BV β ob l b) : LiveB β ob b := by
 obtain ⟨i, s, x, _, h1, hr, h3, h4⟩ := h
 exact ⟨i, _, x, h1, O.live_isR hr, h3, h4⟩

section
variable {l bv : List Nat}

theorem get_b1 (hW : WRep cx β ob w) (hl : l.all (fun i => decide (i < ob.length)) = true) {i j : Nat} (hj : l[j]? = some i) : ∃ (o : O) (x : Value), ob[i]? = some o ∧ β[i]? = some x ∧ (l.map fun i => β.getD i undef)[j]? = some x ∧ (pick ob (idx l) l)[j]? = some (renO (idx l) o) := by
 have hi : i < ob.length := by
  have := List.all_eq_true.1 hl i (List.mem_of_getElem? hj)
  simpa using this
 have hi' : i < β.length := by rw [hW.len]; exact hi
 refine ⟨ob[i], β[i], List.getElem?_eq_getElem hi, List.getElem?_eq_getElem hi', ?_, ?_⟩
 ·rw [List.getElem?_map, hj]
  simp [List.getD_eq_getElem?_getD, hi']
 ·unfold pick
  rw [List.getElem?_map, hj]
  simp [hi]

theorem start_good (hW : WRep cx β ob w) (hl : l.all (fun i => decide (i < ob.length)) = true) (hn : l.Nodup) (hbv : bv.all (fun i => !(l.contains i && isRow ob i)) = true) :
  WRep (cx1 cx β ob l bv w) (l.map fun i => β.getD i undef) ((pick ob (idx l) l).map unfO) w ∧
  (∀ fl b, okV cx β ob bv fl b -> b < w.heap.size -> okB (cx1 cx β ob l bv w) (l.map fun i => β.getD i undef) ((pick ob (idx l) l).map unfO) false b) := by
 have hob1 : ∀ (j : Nat) (o' : O), ((pick ob (idx l) l).map unfO)[j]? = some o' -> ∃ (i : Nat) (o : O) (x : Value), l[j]? = some i ∧ ob[i]? = some o ∧ β[i]? = some x ∧ (l.map fun i => β.getD i undef)[j]? = some x ∧ o' = unfO (renO (idx l) o) := by
  intro j o' h
  obtain ⟨o1, h1, rfl⟩ := get_map h
  have hj : j < l.length := by have := get_lt h1; simpa [pick] using this
  obtain ⟨o, x, h2, h3, h4, h5⟩ := get_b1 hW hl (List.getElem?_eq_getElem hj)
  rw [h5] at h1
  obtain rfl := Option.some.inj h1
  exact ⟨l[j], o, x, List.getElem?_eq_getElem hj, h2, h3, h4, rfl⟩
 have hlive : ∀ b, LiveB (l.map fun i => β.getD i undef) ((pick ob (idx l) l).map unfO) b -> PB β ob l b := by
  rintro b ⟨j, o', x', h1, h2, h3, h4⟩
  obtain ⟨i, o, x, k1, k2, k3, k4, rfl⟩ := hob1 j o' h1
  rw [k4] at h3
  obtain rfl := Option.some.inj h3
  exact ⟨i, o, x, List.mem_of_getElem? k1, k2, by rw [live_unf] at h2; exact live_ren h2, k3, h4⟩
 have hbvpb : ∀ b, BV β ob bv b -> ¬ PB β ob l b := by
  rintro b ⟨i, s, x, h1, h2, hr, h3, h4⟩ ⟨i', o, x', k1, k2, k3, k4, k5⟩
  have := hW.sep i i' _ o x x' b h2 k2 (O.live_isR hr) k3 h3 k4 h4 k5
  subst this
  have hb := List.all_eq_true.1 hbv i h1
  have : isRow ob i = true := by unfold isRow; rw [h2]; exact hr
  rw [this] at hb
  simp at hb
  exact hb k1
 have hok : ∀ fl b, okV cx β ob bv fl b -> b < w.heap.size -> okB (cx1 cx β ob l bv w) (l.map fun i => β.getD i undef) ((pick ob (idx l) l).map unfO) false b := by
  rintro fl b (h | ⟨rfl, h⟩) hb
  ·have hnp : ¬ PB β ob l b := fun hp => h.1 hp.live
   exact ⟨fun hl => hnp (hlive b hl), .inr ⟨rfl, .inl ⟨hnp, hb, .inl (h.weaken (fl' := false) fun h => by cases h)⟩⟩⟩
  ·have hnp := hbvpb b h
   exact ⟨fun hl => hnp (hlive b hl), .inr ⟨rfl, .inl ⟨hnp, hb, .inr h⟩⟩⟩
 have hf : ∀ (i j : Nat) (x : Value), idx l i = some j -> β[i]? = some x -> (l.map fun i => β.getD i undef)[j]? = some x := by
  intro i j x h hx
  have := idx_some h
  rw [List.getElem?_map, this]
  simp [List.getD_eq_getElem?_getD, hx]
 refine ⟨⟨Nat.le_refl _, fun _ _ _ => rfl, rfl, rfl, rfl, by simp [pick], fun _ _ h => h, ?_, ?_, ?_, fun b o h => ?tab⟩, hok⟩
 ·intro j o' x' h1 h2
  obtain ⟨i, o, x, k1, k2, k3, k4, rfl⟩ := hob1 j o' h1
  rw [k4] at h2
  obtain rfl := Option.some.inj h2
  have h0 := hW.obj i o x k2 k3
  have h3 := RepO.ren (cx' := cx) (β' := l.map fun i => β.getD i undef) (w' := w) (ok' := okB cx β ob) hf (fun fl b h _ => ⟨h, rfl⟩) (Nat.le_refl _) (fun _ _ _ => rfl) h0
  exact RepO.unf (fun fl b h hb => hok fl b (.inl h) hb) h3
 ·intro j k o1 o2 x1 x2 b h1 h2 l1 l2 k1 k2 b1 b2
  obtain ⟨i1, o1', x1', p1, p2, p3, p4, rfl⟩ := hob1 j o1 h1
  obtain ⟨i2, o2', x2', q1, q2, q3, q4, rfl⟩ := hob1 k o2 h2
  rw [p4] at k1
  rw [q4] at k2
  obtain rfl := Option.some.inj k1
  obtain rfl := Option.some.inj k2
  rw [live_unf] at l1 l2
  have := hW.sep i1 i2 _ _ _ _ b p2 q2 (live_ren l1) (live_ren l2) p3 q3 b1 b2
  subst this
  exact nodup_get hn p1 q1
 ·intro j o' x b h1 h2 h3 h4
  exact .inl (hlive b ⟨j, o', x, h1, h2, h3, h4⟩)
 ·obtain ⟨t1, t2, t3⟩ := hW.tab b o h
  refine ⟨Nat.lt_of_lt_of_le t1 hW.hs, fun hp => ?_, (hW.keep b t1 t2).trans t3⟩
  obtain ⟨i, o', x, _, h2, h3, h4, h5⟩ := hp
  rcases hW.own i o' x b h2 h3 h4 h5 with h6 | h6
  ·exact t2 h6
  ·omega

theorem back_good {nf : Bool} {fz : List O} {x : AV} {v : Value} {fr : List AV} (hW : WRep cx β ob w) (hA : ARep w (okB cx β ob) β fr a) (hl : l.all (fun i => decide (i < ob.length)) = true) (hn : l.Nodup) (hbv : bv.all (fun i => !(l.contains i && isRow ob i)) = true)
  (hfz : fz = if nf = true then freezeL ob (bv.map AV.own) else ob)
  (hW' : WRep (cx1 cx β ob l bv w) β' ob' w') (hx : RepV w' (okB (cx1 cx β ob l bv w) β' ob') β' x v) (hnf : nf = false -> fresh 5 x = true ∧ ob'.all freshO = true) :
  ∃ βF, Res cx βF ⟨fr, writeBack (back l ob.length) l (ob'.take l.length) fz ++ (ob'.drop l.length).map (renO (back l ob.length))⟩ (ren (back l ob.length) 5 x) a v w' ∧
   Ext (if l.isEmpty then 0 else 2) β ob w βF (writeBack (back l ob.length) l (ob'.take l.length) fz ++ (ob'.drop l.length).map (renO (back l ob.length))) ∧ (∀ b, b < w.heap.size -> ¬ PB β ob l b -> w'.heap[b]? = w.heap[b]?) := by
 have hlen1 : β'.length = ob'.length := hW'.len
 have hm : l.length ≤ β'.length := by
  rcases Nat.eq_zero_or_pos l.length with h0 | h0
  ·omega
  ·have hb : ((l.map fun i => β.getD i undef))[l.length - 1]? = some ((l.map fun i => β.getD i undef)[l.length - 1]'(by simp; omega)) := List.getElem?_eq_getElem _
   have := get_lt (hW'.pre _ _ hb)
   omega
 -- the state at the call, frozen where that is asked
 have hF : WRep cx β fz w ∧ (∀ b, LiveB β fz b -> LiveB β ob b) ∧ fz.length = ob.length := by
  rw [hfz]
  cases nf with
  |false => exact ⟨hW, fun _ h => h, rfl⟩
  |true =>
   obtain ⟨h1, h2⟩ := freezeL_good (bv.map AV.own) ob hW
   exact ⟨h1, h2, freezeL_len _ _⟩
 obtain ⟨hWf, hLf, hlf⟩ := hF
 have hFrow : nf = true -> ∀ i o, i ∈ bv -> fz[i]? = some o -> o.isR = false := by
  intro hn i o hi
  rw [hfz, hn]
  exact freezeL_done bv ob i o hi
 have hpre : ∀ (j i : Nat) (x : Value), l[j]? = some i -> β[i]? = some x -> β'[j]? = some x := by
  intro j i x hj hx
  refine hW'.pre j x ?_
  show (l.map fun i => β.getD i undef)[j]? = some x
  rw [List.getElem?_map, hj]
  simp [List.getD_eq_getElem?_getD, hx]
 generalize hβF : β ++ β'.drop l.length = βF
 generalize hobF : writeBack (back l ob.length) l (ob'.take l.length) fz ++ (ob'.drop l.length).map (renO (back l ob.length)) = obF
 have hwl : (writeBack (back l ob.length) l (ob'.take l.length) fz).length = ob.length := by rw [writeBack_len, hlf]
 have hβlen : β.length = ob.length := hW.len
 have hext : ∀ (i : Nat) (x : Value), β[i]? = some x -> βF[i]? = some x := by
  intro i x h
  rw [← hβF, List.getElem?_append, if_pos (get_lt h)]
  exact h
 -- from the callee's numbers to the caller's
 have hg : ∀ (j k : Nat) (x : Value), back l ob.length j = some k -> β'[j]? = some x -> βF[k]? = some x := by
  intro j k x hb hx
  unfold back at hb
  split at hb
  ·rename_i hj
   have hk : k < ob.length := by
    have := List.all_eq_true.1 hl k (List.mem_of_getElem? hb)
    simpa using this
   have hk' : k < β.length := by omega
   have := hpre j k β[k] hb (List.getElem?_eq_getElem hk')
   rw [hx] at this
   obtain rfl := Option.some.inj this
   exact hext k _ (List.getElem?_eq_getElem hk')
  ·rename_i hj
   obtain rfl := Option.some.inj hb
   rw [← hβF, List.getElem?_append, if_neg (by omega), hβlen, List.getElem?_drop]
   rw [show l.length + (ob.length + (j - l.length) - ob.length) = j from by omega]
   exact hx
 -- each object of the new state: one of the callee's, or one that it never saw
 have hcl : ∀ (k : Nat) (o1 : O) (x1 : Value), obF[k]? = some o1 -> βF[k]? = some x1 →
   (∃ j o, back l ob.length j = some k ∧ ob'[j]? = some o ∧ o1 = keepFl fz[k]? (renO (back l ob.length) o) ∧ β'[j]? = some x1) ∨ (k ∉ l ∧ fz[k]? = some o1 ∧ β[k]? = some x1) := by
  intro k o1 x1 ho hx
  rw [← hobF, List.getElem?_append, hwl] at ho
  rw [← hβF, List.getElem?_append, hβlen] at hx
  split at ho
  ·rename_i hk
   rw [if_pos hk] at hx
   by_cases hkl : k ∈ l
   ·obtain ⟨j, hj⟩ := List.getElem?_of_mem hkl
    have hjl : j < l.length := get_lt hj
    have hjo : j < ob'.length := by omega
    have := writeBack_in (back l ob.length) l (ob'.take l.length) fz j k ob'[j] hn hj (by rw [List.getElem?_take, if_pos hjl]; exact List.getElem?_eq_getElem hjo) (by omega)
    rw [this] at ho
    refine .inl ⟨j, ob'[j], ?_, List.getElem?_eq_getElem hjo, (Option.some.inj ho).symm, hpre j k x1 hj hx⟩
    unfold back
    rw [if_pos hjl]
    exact hj
   ·rw [writeBack_out _ _ _ _ hkl] at ho
    exact .inr ⟨hkl, ho, hx⟩
  ·rename_i hk
   rw [if_neg hk] at hx
   obtain ⟨o, h1, rfl⟩ := get_map ho
   rw [List.getElem?_drop] at h1 hx
   have hn : fz[k]? = none := List.getElem?_eq_none (by omega)
   refine .inl ⟨l.length + (k - ob.length), o, ?_, h1, by rw [hn]; rfl, hx⟩
   unfold back
   rw [if_neg (by omega)]
   congr 1
   omega
 have hinj : ∀ (j j' k : Nat), back l ob.length j = some k -> back l ob.length j' = some k -> j = j' := by
  intro j j' k h1 h2
  unfold back at h1 h2
  have hlt : ∀ i, l[i]? = some k -> k < ob.length := fun i h => by
   have := List.all_eq_true.1 hl k (List.mem_of_getElem? h)
   simpa using this
  split at h1 <;> split at h2
  ·exact nodup_get hn h1 h2
  ·have := hlt _ h1
   have := Option.some.inj h2
   omega
  ·have := hlt _ h2
   have := Option.some.inj h1
   omega
  ·have := Option.some.inj h1
   have := Option.some.inj h2
   omega
 have hlive : ∀ b, LiveB βF obF b -> LiveB β' ob' b ∨ ∃ (k : Nat) (o : O) (x : Value), k ∉ l ∧ fz[k]? = some o ∧ o.live = true ∧ β[k]? = some x ∧ blk x b := by
  rintro b ⟨k, o1, x1, h1, h2, h3, h4⟩
  rcases hcl k o1 x1 h1 h3 with ⟨j, o, k1, k2, rfl, k4⟩ | ⟨k1, k2, k3⟩
  ·exact .inl ⟨j, o, x1, k2, live_ren (by rw [keepFl_live] at h2; exact h2), k4, h4⟩
  ·exact .inr ⟨k, o1, x1, k1, k2, h2, k3, h4⟩
 have hown1 : ∀ b, LiveB β' ob' b -> PB β ob l b ∨ w.heap.size ≤ b := by
  rintro b ⟨j, o, x, h1, h2, h3, h4⟩
  exact hW'.own j o x b h1 h2 h3 h4
 have hsz : w.heap.size ≤ w'.heap.size := hW'.hs
 have hkeep : ∀ b, b < w.heap.size -> ¬ PB β ob l b -> w'.heap[b]? = w.heap[b]? := fun b hb hp => hW'.keep b hb hp
 have hpbown : ∀ b, PB β ob l b -> cx.pb b ∨ cx.w0.heap.size ≤ b := by
  rintro b ⟨i, o, x, _, h1, h2, h3, h4⟩
  exact hW.own i o x b h1 h2 h3 h4
 have hbvown : ∀ b, BV β ob bv b -> cx.pb b ∨ cx.w0.heap.size ≤ b := by
  rintro b ⟨i, s, x, _, h1, hr, h3, h4⟩
  exact hW.own i _ x b h1 (O.live_isR hr) h3 h4
 -- the caller's facts go on
 have hok : ∀ fl b, okB cx β ob fl b -> b < w.heap.size -> okB cx βF obF fl b ∧ w'.heap[b]? = w.heap[b]? := by
  intro fl b h hb
  refine ⟨okB_of h fun hlv => ?_, hkeep b hb fun hp => h.1 hp.live⟩
  rcases hlive b hlv with h1 | ⟨k, o, x, h1, h2, h3, h4, h5⟩
  ·rcases hown1 b h1 with h2 | h2
   ·exact h2.live
   ·omega
  ·exact hLf b ⟨k, o, x, h2, h3, h4, h5⟩
 have hokf : ∀ fl b, okB cx β fz fl b -> b < w.heap.size -> okB cx βF obF fl b ∧ w'.heap[b]? = w.heap[b]? := by
  intro fl b h hb
  have hnp : ¬ PB β ob l b := by
   rintro ⟨i, o, x, hi, h1, h2, h3, h4⟩
   -- a block that is handed over is live in the frozen state, too
   rcases (show fz[i]? = ob[i]? ∨ ∃ s, fz[i]? = some s ∧ s.froz = true by
    rw [hfz]
    cases nf with
    |false => exact .inl rfl
    |true => exact freezeL_get _ _ _) with e | ⟨s, e, ef⟩
   ·exact h.1 ⟨i, o, x, by rw [e]; exact h1, h2, h3, h4⟩
   ·have e' : (freezeL ob (bv.map AV.own))[i]? = some s ∨ ob[i]? = some s := by
     rw [hfz] at e
     cases nf with
     |false => exact .inr e
     |true => exact .inl e
    have bad : ob[i]? = some s -> False := fun e2 => by
     rw [h1] at e2
     obtain rfl := Option.some.inj e2
     rw [O.froz_dead ef] at h2
     cases h2
    rcases e' with e' | e'
    ·rcases freezeL_only bv ob i s e' with e2 | ⟨hib, o2, e2, er⟩
     ·exact bad e2
     ·have hb := List.all_eq_true.1 hbv i hib
      have : isRow ob i = true := by unfold isRow; rw [e2]; exact er
      rw [this] at hb
      simp at hb
      exact hb hi
    ·exact bad e'
  refine ⟨okB_of h fun hlv => ?_, hkeep b hb hnp⟩
  rcases hlive b hlv with h1 | ⟨k, o, x, h1, h2, h3, h4, h5⟩
  ·rcases hown1 b h1 with h2 | h2
   ·exact absurd h2 hnp
   ·omega
  ·exact ⟨k, o, x, h2, h3, h4, h5⟩
 -- the callee's facts become the caller's
 have hokc : ∀ fl b, (okB (cx1 cx β ob l bv w) β' ob' fl b ∧ (fl = true ∨ nf = true)) -> b < w'.heap.size -> okB cx βF obF fl b ∧ w'.heap[b]? = w'.heap[b]? := by
  rintro fl b ⟨h, hfl⟩ hb
  have h2 : w.heap.size ≤ b ∨ (fl = false ∧ (rho1 cx β ob l bv w b ∨ PB β ob l b)) := h.2
  refine ⟨⟨fun hlv => ?_, ?_⟩, rfl⟩
  ·rcases hlive b hlv with h1 | ⟨k, o, x, k1, k2, k3, k4, k5⟩
   ·exact h.1 h1
   ·have hlt := (hWf.obj k o x k2 k4).lt k3 k5
    rcases h2 with h2 | ⟨rfl, h2 | h2⟩
    ·omega
    ·rcases h2.2.2 with h2 | ⟨i, s, y, q1, q2, qr, q3, q4⟩
     ·exact h2.1 (hLf b ⟨k, o, x, k2, k3, k4, k5⟩)
     ·have hnt : nf = true := by rcases hfl with h | h; cases h; exact h
      obtain ⟨k', o', x', r1, r2, r3, r4⟩ := hLf b ⟨k, o, x, k2, k3, k4, k5⟩
      -- the live object of the frozen state with this block is the row that was handed over: it is frozen
      have e1 : fz[k]? = ob[k]? := by
       rcases (show fz[k]? = ob[k]? ∨ ∃ s, fz[k]? = some s ∧ s.froz = true by
        rw [hfz, hnt]
        exact freezeL_get _ _ _) with e | ⟨s, e, ef⟩
       ·exact e
       ·rw [e] at k2
        obtain rfl := Option.some.inj k2
        rw [O.froz_dead ef] at k3
        cases k3
      have e2 := hW.sep k i o _ x y b (by rw [← e1]; exact k2) q2 k3 (O.live_isR qr) k4 q3 k5 q4
      subst e2
      rw [e1, q2] at k2
      obtain rfl := Option.some.inj k2
      have := hFrow hnt k _ q1 (e1.trans q2)
      rw [qr] at this
      cases this
    ·obtain ⟨i, o', y, q1, q2, q3, q4, q5⟩ := h2
     have e1 : fz[k]? = ob[k]? := by
      rcases (show fz[k]? = ob[k]? ∨ ∃ s, fz[k]? = some s ∧ s.froz = true by
       rw [hfz]
       cases nf with
       |false => exact .inl rfl
       |true => exact freezeL_get _ _ _) with e | ⟨s, e, ef⟩
      ·exact e
      ·rw [e] at k2
       obtain rfl := Option.some.inj k2
       rw [O.froz_dead ef] at k3
       cases k3
     have e2 := hW.sep k i o o' x y b (by rw [← e1]; exact k2) q2 k3 q3 k4 q4 k5 q5
     subst e2
     exact k1 q1
  ·rcases h2 with h2 | ⟨rfl, h2 | h2⟩
   ·exact .inl (Nat.le_trans hW.hs h2)
   ·rcases h2.2.2 with h2 | h2
    ·rcases h2.2 with h3 | ⟨_, h3⟩
     ·exact .inl h3
     ·exact .inr ⟨rfl, h3⟩
    ·rcases hbvown b h2 with h3 | h3
     ·exact .inr ⟨rfl, .inr h3⟩
     ·exact .inl h3
   ·rcases hpbown b h2 with h3 | h3
    ·exact .inr ⟨rfl, .inr h3⟩
    ·exact .inl h3
 have hxF : RepV w' (fun fl b => okB (cx1 cx β ob l bv w) β' ob' fl b ∧ (fl = true ∨ nf = true)) β' x v := by
  cases hnf' : nf with
  |true => exact hx.mono (fun fl b h _ => ⟨⟨h, .inr rfl⟩, rfl⟩) fun _ _ h => h
  |false => exact (fresh_only 5 x v (hnf hnf').1 hx).mono (fun fl b h _ => ⟨⟨h.2, .inl h.1⟩, rfl⟩) fun _ _ h => h
 have hoF : ∀ (j : Nat) (o : O) (y : Value), ob'[j]? = some o -> β'[j]? = some y -> RepO (cx1 cx β ob l bv w) w' (fun fl b => okB (cx1 cx β ob l bv w) β' ob' fl b ∧ (fl = true ∨ nf = true)) β' o y := by
  intro j o y ho hy
  have h0 := hW'.obj j o y ho hy
  cases hnf' : nf with
  |true => exact h0.mono (fun fl b h _ => ⟨⟨h, .inr rfl⟩, rfl⟩) (fun _ _ h => h) fun _ _ _ => rfl
  |false => exact (freshO_only (List.all_eq_true.1 (hnf hnf').2 o (List.mem_of_getElem? ho)) h0).mono (fun fl b h _ => ⟨⟨h.2, .inl h.1⟩, rfl⟩) (fun _ _ h => h) fun _ _ _ => rfl
 have hE : Ext (if l.isEmpty then 0 else 2) β ob w βF obF := by
  refine ⟨hext, fun lv hlv b hb ht => ?_⟩
  match lv, hlv, ht with
  |0, _, ht => exact ht
  |1, hlv, ⟨k, s, x, h1, hs, h2, h3⟩ =>
   have hemp : l = [] := by
    cases l with
    |nil => rfl
    |cons _ _ => simp at hlv
   rcases hcl k _ x h1 h2 with ⟨j, o, k1, k2, k3, k4⟩ | ⟨k1, k2, k3⟩
   ·rcases hown1 b ⟨j, o, x, k2, live_ren (f := back l ob.length) (by rw [← keepFl_live fz[k]?, ← k3]; exact O.live_of_rowish hs), k4, h3⟩ with ⟨i, _, _, hi, _⟩ | h
    ·rw [hemp] at hi
     simp at hi
    ·omega
   ·have e1 : fz[k]? = ob[k]? := by
     rcases (show fz[k]? = ob[k]? ∨ ∃ s, fz[k]? = some s ∧ s.froz = true by
      rw [hfz]
      cases nf with
      |false => exact .inl rfl
      |true => exact freezeL_get _ _ _) with e | ⟨s, e, ef⟩
     ·exact e
     ·rw [e] at k2
      obtain rfl := Option.some.inj k2
      have := O.live_of_rowish hs
      rw [O.froz_dead ef] at this
      cases this
    exact ⟨k, s, x, e1 ▸ k2, hs, k3, h3⟩
  |lv + 2, _, ht =>
   rcases hlive b ht with h | ⟨k, o, x, h1, h2, h3, h4, h5⟩
   ·rcases hown1 b h with h | h
    ·exact h.live
    ·omega
   ·exact hLf b ⟨k, o, x, h2, h3, h4, h5⟩
 refine ⟨βF, ⟨⟨Nat.le_trans hW.hs hsz, fun b hb hp => ?_, hW'.os.trans hW.os, hW'.tape.trans hW.tape, hW'.out.trans hW.out, ?_, fun i y h => hext i y (hW.pre i y h), ?_, ?_, ?_, hW.tab⟩, hA.mono hok hext, RepV.ren hg hokc 5 x v hxF⟩, hE, hkeep⟩
 ·rw [hkeep b (Nat.lt_of_lt_of_le hb hW.hs) fun hpb => ?_, hW.keep b hb hp]
  rcases hpbown b hpb with h | h
  ·exact hp h
  ·omega
 ·rw [← hβF, ← hobF, List.length_append, List.length_append, hwl, List.length_map, List.length_drop, List.length_drop, hβlen, hlen1]
 ·intro k o1 x1 h1 h2
  rcases hcl k o1 x1 h1 h2 with ⟨j, o, k1, k2, rfl, k4⟩ | ⟨k1, k2, k3⟩
  ·refine (RepO.ren hg hokc hW.hs (fun _ _ _ => rfl) (hoF j o x1 k2 k4)).keep (fun s hs hfl b hb => ?_) fun s hs hfl b hb => ?_
   ·have hkl : k < β.length := by rw [hβlen, ← hlf]; exact get_lt hs
    have hbk : β[k]? = some x1 := by
     have := hext k _ (List.getElem?_eq_getElem hkl)
     rw [h2] at this
     rw [List.getElem?_eq_getElem hkl, ← Option.some.inj this]
    obtain ⟨_, _, hf, _⟩ := hWf.obj k _ x1 hs hbk
    exact hf hfl b hb
   ·have hkl : k < β.length := by rw [hβlen, ← hlf]; exact get_lt hs
    have hbk : β[k]? = some x1 := by
     have := hext k _ (List.getElem?_eq_getElem hkl)
     rw [h2] at this
     rw [List.getElem?_eq_getElem hkl, ← Option.some.inj this]
    obtain ⟨_, _, _, _, _, _, _, hf, _⟩ := hWf.obj k _ x1 hs hbk
    exact hf hfl b hb
  ·refine (hWf.obj k o1 x1 k2 k3).mono hokf hext fun hlv b hb => ?_
   refine hkeep b ((hWf.obj k o1 x1 k2 k3).lt hlv hb) ?_
   rintro ⟨i, o', y, q1, q2, q3, q4, q5⟩
   have e1 : fz[k]? = ob[k]? := by
    rcases (show fz[k]? = ob[k]? ∨ ∃ s, fz[k]? = some s ∧ s.froz = true by
     rw [hfz]
     cases nf with
     |false => exact .inl rfl
     |true => exact freezeL_get _ _ _) with e | ⟨s, e, ef⟩
    ·exact e
    ·rw [e] at k2
     obtain rfl := Option.some.inj k2
     rw [O.froz_dead ef] at hlv
     cases hlv
   have e2 := hW.sep k i o1 o' x1 y b (by rw [← e1]; exact k2) q2 hlv q3 k3 q4 hb q5
   subst e2
   exact k1 q1
 ·intro k1 k2 o1 o2 x1 x2 b h1 h2 l1 l2 b1 b2 c1 c2
  have key : ∀ (k : Nat) (o : O) (y : Value), k ∉ l -> fz[k]? = some o -> β[k]? = some y -> o.live = true -> blk y b -> ∀ (j : Nat) (o' : O) (y' : Value), ob'[j]? = some o' -> o'.live = true -> β'[j]? = some y' -> blk y' b -> False := by
   intro k o y q1 q2 q3 q4 q5 j o' y' r1 r2 r3 r4
   have hlt := (hWf.obj k o y q2 q3).lt q4 q5
   rcases hown1 b ⟨j, o', y', r1, r2, r3, r4⟩ with ⟨i, o3, y3, s1, s2, s3, s4, s5⟩ | h
   ·have e1 : fz[k]? = ob[k]? := by
     rcases (show fz[k]? = ob[k]? ∨ ∃ s, fz[k]? = some s ∧ s.froz = true by
      rw [hfz]
      cases nf with
      |false => exact .inl rfl
      |true => exact freezeL_get _ _ _) with e | ⟨s, e, ef⟩
     ·exact e
     ·rw [e] at q2
      obtain rfl := Option.some.inj q2
      rw [O.froz_dead ef] at q4
      cases q4
    have e2 := hW.sep k i o o3 y y3 b (by rw [← e1]; exact q2) s2 q4 s3 q3 s4 q5 s5
    subst e2
    exact q1 s1
   ·omega
  rcases hcl k1 o1 x1 h1 b1 with ⟨j, o, q1, q2, rfl, q4⟩ | ⟨q1, q2, q3⟩ <;> rcases hcl k2 o2 x2 h2 b2 with ⟨j', o', r1, r2, rfl, r4⟩ | ⟨r1, r2, r3⟩
  ·replace l1 := live_ren (by rw [keepFl_live] at l1; exact l1)
   replace l2 := live_ren (by rw [keepFl_live] at l2; exact l2)
   have := hW'.sep j j' o o' x1 x2 b q2 r2 l1 l2 q4 r4 c1 c2
   subst this
   exact Option.some.inj (q1.symm.trans r1)
  ·replace l1 := live_ren (by rw [keepFl_live] at l1; exact l1)
   exact (key k2 o2 x2 r1 r2 r3 l2 c2 j o x1 q2 l1 q4 c1).elim
  ·replace l2 := live_ren (by rw [keepFl_live] at l2; exact l2)
   exact (key k1 o1 x1 q1 q2 q3 l1 c1 j' o' x2 r2 l2 r4 c2).elim
  ·exact hWf.sep k1 k2 o1 o2 x1 x2 b q2 r2 l1 l2 q3 r3 c1 c2
 ·intro k o1 x1 b h1 hlv h2 hb
  rcases hcl k o1 x1 h1 h2 with ⟨j, o, q1, q2, rfl, q4⟩ | ⟨q1, q2, q3⟩
  ·replace hlv := live_ren (by rw [keepFl_live] at hlv; exact hlv)
   rcases hown1 b ⟨j, o, x1, q2, hlv, q4, hb⟩ with h | h
   ·exact hpbown b h
   ·exact .inr (Nat.le_trans hW.hs h)
  ·exact hWf.own k o1 x1 b q2 hlv q3 hb
end


theorem call_sound {K : AV -> St -> Option R} {r : R} {f : FuncId} {S : Sum} {ts : List TypeId} {args : List AV} {vals : List Value} (hS : Sound P f S) (g : Good cx β σ a w) (hr : RepL w (okB cx β σ.ob) β args vals) (h : callSum P S ts args σ K = some r) :
  Calls P f vals.toArray w fun e w' => ∃ v x σ' βF, e = .returned v ∧ K x σ' = some r ∧ Res cx βF σ' x a v w' ∧ Ext (if (callL P S ts args σ.ob).isEmpty then 0 else 2) β σ.ob w βF σ'.ob ∧ w.heap.size ≤ w'.heap.size ∧
   (∀ b, b < w.heap.size -> ¬ PB β σ.ob (callL P S ts args σ.ob) b -> w'.heap[b]? = w.heap[b]?) := by
 unfold callSum at h
 simp only [forceM_eq (forceD_eq 6), forceNs_eq, forceOs_eq] at h
 split at h
 ·rename_i hok
  unfold callOk at hok
  rw [Bool.and_eq_true] at hok
  have hn : (callL P S ts args σ.ob).Nodup := reach_nodup _ _ _ _ List.nodup_nil
  obtain ⟨h1, h2⟩ := start_good (bv := byVal S.own 0 args) g.W hok.2 hn hok.1
  have hf : ∀ (i j : Nat) (x : Value), idx (callL P S ts args σ.ob) i = some j -> β[i]? = some x -> ((callL P S ts args σ.ob).map fun i => β.getD i undef)[j]? = some x := by
   intro i j x h hx
   have := idx_some h
   rw [List.getElem?_map, this]
   simp [List.getD_eq_getElem?_getD, hx]
  have hc := convs_rep (P := P) (bv := byVal S.own 0 args) (own := S.own) g.W 0 ts args vals hr
  have hargs : RepL w (okB (cx1 cx β σ.ob (callL P S ts args σ.ob) (byVal S.own 0 args) w) ((callL P S ts args σ.ob).map fun i => β.getD i undef) ((pick σ.ob (idx (callL P S ts args σ.ob)) (callL P S ts args σ.ob)).map unfO))
    ((callL P S ts args σ.ob).map fun i => β.getD i undef) ((convs P σ.ob (byVal S.own 0 args) S.own 0 ts args).map fun x => unf 5 (ren (idx (callL P S ts args σ.ob)) 5 x)) vals := by
   refine ⟨by simpa using hc.1, fun i y z hy hz => ?_⟩
   obtain ⟨x, hx, rfl⟩ := get_map hy
   exact RepV.unf h2 5 _ z (RepV.ren (w' := w) (ok' := okV cx β σ.ob (byVal S.own 0 args)) hf (fun fl b h _ => ⟨h, rfl⟩) 5 x z (hc.2 i x z hx hz))
  refine (hS _ r _ _ h vals w _ _ _ _ h1 hargs).mono ?_
  rintro e w' ⟨v, x, ob', β', rfl, hK, hW', hx⟩
  obtain ⟨βF, q1, q2, q3⟩ := back_good (nf := !(fresh 5 x && ob'.all freshO)) (fz := if (fresh 5 x && ob'.all freshO) = true then σ.ob else freezeL σ.ob ((byVal S.own 0 args).map AV.own)) (fr := σ.fr) (a := a)
   g.W g.A hok.2 hn hok.1 (by cases (fresh 5 x && ob'.all freshO) <;> rfl) hW' hx (fun h => by simpa using h)
  have hK' := hK
  unfold callBack at hK'
  simp only [forceD_eq, forceOs_eq] at hK'
  exact ⟨v, _, _, βF, rfl, hK', q1, q2, hW'.hs, q3⟩
 ·cases h

end Go.Ev
