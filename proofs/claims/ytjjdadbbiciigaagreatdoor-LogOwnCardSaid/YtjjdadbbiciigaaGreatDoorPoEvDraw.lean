/- Regions that draw their order. -/
import Derived.Test.YtjjdadbbiciigaaGreatDoorPoEvRun
import Derived.Test.YtjjdadbbiciigaaGreatDoorPoEvOrd
namespace Go.Ev
set_option linter.unusedVariables false
set_option linter.unusedSimpArgs false
set_option linter.unusedSectionVars false
variable [tG : TabG]

variable {P : Program} {R : Type} {cx : Cx} {β β' : List Value} {ob ob' : List O} {w w' : World} {σ σ' : St} {a a' : Act}
variable {o : Oper} {r : R} {Q : Exit -> Act -> World -> Prop} {Γ : FuncId -> Option Sum}

theorem touch.up {l l' b : Nat} (hl : l ≤ l') (h : touch l β ob b) : touch l' β ob b := by
 match l, l', h, hl with
 |0, _, h, _ => exact h.elim
 |1, 0, _, hl => omega
 |1, 1, h, _ => exact h
 |1, l + 2, h, _ => exact h.live
 |l + 2, 0, _, hl => omega
 |l + 2, 1, _, hl => omega
 |l + 2, l' + 2, h, _ => exact h

theorem Ext.less {lvl : Nat} {w0 : World} (h : Ext lvl β ob w β' ob') (hs : w0.heap.size ≤ w.heap.size) : Ext lvl β ob w0 β' ob' :=
 ⟨h.ext, fun l hl b hb ht => h.sub l hl b (Nat.lt_of_lt_of_le hb hs) ht⟩

theorem quiet_ok {K : AV -> St -> Option R} {lvl : Nat} (hq : quietOp lvl o σ = true) (g : Good cx β σ a w) (h : evOp P Γ o σ K = some r) :
  ∃ x v, (K x σ = some r ∧ RepV w (okB cx β σ.ob) β x v) ∧ (∀ w' : World, (isLoad o = true -> ∀ b, b < w.heap.size -> ¬ touch lvl β σ.ob b -> w'.heap[b]? = w.heap[b]?) -> (execOp a.eval o).run P w' = .ok (.value v) w') := by
 have pu : Pu P cx K r o β σ a w -> ∃ x v, (K x σ = some r ∧ RepV w (okB cx β σ.ob) β x v) ∧ (∀ w' : World, (isLoad o = true -> ∀ b, b < w.heap.size -> ¬ touch lvl β σ.ob b -> w'.heap[b]? = w.heap[b]?) -> (execOp a.eval o).run P w' = .ok (.value v) w') :=
  fun ⟨x, v, h1, h2⟩ => ⟨x, v, h1, fun w' _ => h2 w'⟩
 cases ho : o.op with
 |move x => exact ⟨σ.ev x, a.eval x, ⟨by simpa only [evOp, ho] using h, g.ev x⟩, fun w' _ => by simp [execOp, ho]⟩
 |pick c x y => exact pu (pu_pick ho g h)
 |load t x =>
  obtain ⟨x, v, h1, h2, h3⟩ := ld_load ho g h
  exact ⟨x, v, h1, fun w' hw => h3 lvl hq w' (hw (by simp [isLoad, ho]))⟩
 |nilCheck x => exact pu (pu_nilCheck ho g h)
 |binOp op t x y u => exact pu (pu_binOp ho g h)
 |unOp op t x => exact pu (pu_unOp ho g h)
 |convert s d x =>
  refine pu (pu_convert ho g ?_ h)
  simp only [quietOp, ho] at hq
  split at hq
  ·exact ⟨_, _, by assumption⟩
  ·cases hq
 |fieldAddr s x f => exact pu (pu_fieldAddr ho g h)
 |field s x f => exact pu (pu_field ho g h)
 |extract x i => exact pu (pu_extract ho g h)
 |indexAddr t x i => exact pu (pu_indexAddr ho g h)
 |index t x i => exact pu (pu_index ho g h)
 |slice t x lo hi mx => exact pu (pu_slice ho g (fun i e => by simp [quietOp, ho, e] at hq) h)
 |makeInterface t x => exact pu (pu_makeInterface ho g h)
 |typeAssert x t u ok => exact pu (pu_typeAssert ho g h)
 |makeFunc fn first cap => exact pu (pu_makeFunc ho g h)
 |build t parts => exact pu (pu_build ho g h)
 |call c =>
  simp only [quietOp, ho] at hq
  split at hq
  ·rename_i hc
   simp only [evOp, ho, evCall, hc] at h
   exact pu (pu_len ho hc g h)
  ·cases hq
 |_ => simp [quietOp, ho] at hq

theorem quiet_lvl {lvl : Nat} (h : quietOp lvl o σ = true) : lvlOp P Γ o = 0 := by
 cases ho : o.op with
 |call c =>
  simp only [quietOp, ho] at h
  split at h
  ·rename_i hc
   simp [lvlOp, ho, hc, bLvl]
  ·cases h
 |store t x y => simp [quietOp, ho] at h
 |convert s d x =>
  cases hsd : s == d with
  |true => simp [quietOp, ho, hsd] at h
  |false => simp [lvlOp, ho, hsd]
 |_ => simp [lvlOp, ho]

theorem maxL_le {l : List Nat} {n : Nat} : maxL l ≤ n ↔ ∀ x ∈ l, x ≤ n := by
 induction l with
 |nil => simp [maxL]
 |cons x xs ih => simp [maxL, ih, Nat.max_le]

theorem lvlSet_le {ops : Array Oper} {p : Nat -> Bool} {n : Nat} : lvlSet P Γ ops p ≤ n ↔ ∀ j, j < ops.size -> p j = true -> lvlAt P Γ ops j ≤ n := by
 unfold lvlSet
 rw [maxL_le]
 constructor
 ·intro h j hj hp
  exact h _ (List.mem_map_of_mem (List.mem_filter.2 ⟨List.mem_range.2 hj, hp⟩))
 ·intro h x hx
  obtain ⟨j, hj, rfl⟩ := List.mem_map.1 hx
  obtain ⟨h1, h2⟩ := List.mem_filter.1 hj
  exact h j (List.mem_range.1 h1) h2

theorem waits_spec {ops : Array Oper} {i : Nat} {L : Array Bool} (hL : Shut .any ops L) {j : Nat} (hj : j ∈ waits ops i) (h : L.getD j false = true) : L.getD i false = true := by
 have key : ∀ (l acc : List Nat), (∀ j ∈ acc, L.getD j false = true -> L.getD i false = true) →
   ∀ j ∈ l.foldl (fun acc j => match ops[j]? with
    |some o => if o.after.any (fun e => Region.binds .any e && acc.contains e.on) then j :: acc else acc
    |none => acc) acc, L.getD j false = true -> L.getD i false = true := by
  intro l
  induction l with
  |nil => exact fun acc h j hj => h j hj
  |cons k l ih =>
   intro acc hacc j hj hl
   refine ih _ ?_ j hj hl
   intro j' hj' hl'
   dsimp only at hj'
   cases ho : ops[k]? with
   |none =>
    rw [ho] at hj'
    exact hacc j' hj' hl'
   |some o =>
    rw [ho] at hj'
    dsimp only at hj'
    split at hj'
    ·rename_i hany
     rcases List.mem_cons.1 hj' with rfl | hj'
     ·obtain ⟨e, he, hb⟩ := Array.any_eq_true'.1 hany
      rw [Bool.and_eq_true] at hb
      exact hacc e.on (by simpa using hb.2) (hL _ o ho hl' e he hb.1)
     ·exact hacc j' hj' hl'
    ·exact hacc j' hj' hl'
 exact key _ [i] (fun j hj hl => by
  rw [List.mem_singleton.1 hj] at hl
  exact hl) j hj h

theorem firstQuiet_spec {q : Bool} {ops : Array Oper} {listed : Array Bool} : ∀ {l : List Nat} {j : Nat}, firstQuiet P Γ q ops listed σ l = some j →
  ∃ o, ops[j]? = some o ∧ j ∈ l ∧ (q = true ∨ isLoad o = false) ∧ Region.free .any ops listed j = true
 |[], j, h => by cases h
 |i :: is, j, h => by
  simp only [firstQuiet] at h
  split at h
  ·rename_i o ho
   split at h
   ·rename_i hc
    obtain rfl := Option.some.inj h
    simp only [Bool.and_eq_true, Bool.or_eq_true] at hc
    exact ⟨o, ho, by simp, hc.1.1.imp id (by simp), hc.2⟩
   ·obtain ⟨o', h1, h2, h3⟩ := firstQuiet_spec h
    exact ⟨o', h1, List.mem_cons_of_mem _ h2, h3⟩
  ·cases h

theorem firstQuiet_lvl {q : Bool} {ops : Array Oper} {listed : Array Bool} : ∀ {l : List Nat} {j : Nat}, firstQuiet P Γ q ops listed σ l = some j -> lvlAt P Γ ops j = 0
 |[], j, h => by cases h
 |i :: is, j, h => by
  simp only [firstQuiet] at h
  split at h
  ·rename_i o ho
   split at h
   ·rename_i hc
    obtain rfl := Option.some.inj h
    simp only [Bool.and_eq_true] at hc
    unfold lvlAt
    rw [ho]
    exact quiet_lvl hc.1.2
   ·exact firstQuiet_lvl h
  ·cases h

theorem firstSkip_spec {ops : Array Oper} {listed : Array Bool} : ∀ {l : List Nat} {j : Nat}, firstSkip P Γ ops listed σ l = some j →
  ∃ o, ops[j]? = some o ∧ j ∈ l ∧ lvlAt P Γ ops j = 0 ∧ Region.free .any ops listed j = true
 |[], j, h => by cases h
 |i :: is, j, h => by
  simp only [firstSkip] at h
  split at h
  ·rename_i o ho
   split at h
   ·rename_i hc
    obtain rfl := Option.some.inj h
    simp only [Bool.and_eq_true, beq_iff_eq] at hc
    exact ⟨o, ho, by simp, by unfold lvlAt; rw [ho]; exact hc.1.2, hc.2⟩
   ·obtain ⟨o', h1, h2, h3⟩ := firstSkip_spec h
    exact ⟨o', h1, List.mem_cons_of_mem _ h2, h3⟩
  ·cases h

def Held (P : Program) (Γ : FuncId -> Option Sum) (ops : Array Oper) (β : List Value) (ob : List O) (w : World) (L : Array Bool) (w' : World) : Prop :=
 w.heap.size ≤ w'.heap.size ∧ ∀ b, b < w.heap.size -> ¬ touch (lvlSet P Γ ops fun j => L.getD j false) β ob b -> w'.heap[b]? = w.heap[b]?

theorem Held.mono {ops : Array Oper} {L L' : Array Bool} (hl : (lvlSet P Γ ops fun j => L.getD j false) ≤ lvlSet P Γ ops fun j => L'.getD j false) (h : Held P Γ ops β ob w L w') : Held P Γ ops β ob w L' w' :=
 ⟨h.1, fun b hb ht => h.2 b hb fun ht' => ht (ht'.up hl)⟩

theorem lvl_set_le {ops : Array Oper} {L : Array Bool} (i : Nat) : (lvlSet P Γ ops fun j => L.getD j false) ≤ lvlSet P Γ ops fun j => (L.setIfInBounds i true).getD j false :=
 lvlSet_le.2 fun j hj hp => lvlSet_le.1 (Nat.le_refl _) j hj (getD_set_true hp)

theorem lvl_set_quiet {ops : Array Oper} {L : Array Bool} {i : Nat} (hi : lvlAt P Γ ops i = 0) : (lvlSet P Γ ops fun j => (L.setIfInBounds i true).getD j false) ≤ lvlSet P Γ ops fun j => L.getD j false := by
 refine lvlSet_le.2 fun j hj hp => ?_
 by_cases hij : i = j
 ·subst hij
  rw [hi]
  exact Nat.zero_le _
 ·rw [getD_set_ne false hij] at hp
  exact lvlSet_le.1 (Nat.le_refl _) j hj hp

theorem evDraw_sound {ops : Array Oper} {β0 : List Value} {ob0 : List O} {w0 : World} (hΓ : Right P Γ) (hs : Region.noSelect ops = true) : ∀ (n : Nat) (q : Bool) (L : Array Bool) (β : List Value) (σ : St) (a : Act) (w : World) (K : St -> Option R),
  Good cx β σ a w -> L.size = ops.size -> Shut .any ops L -> Held P Γ ops β0 ob0 w0 L w -> Ext (lvlSet P Γ ops fun j => L.getD j false) β0 ob0 w0 β σ.ob -> (q = true -> w = w0 ∧ β = β0 ∧ σ.ob = ob0) -> evDraw P Γ ops n q L σ K = some r →
  wpAnyL P .any ops (AtEnd cx K r) (Held P Γ ops β0 ob0 w0) n L a w
 |0, q, L, β, σ, a, w, K, g, hz, hL, hS, hE, hq, h => by
  simp only [evDraw] at h
  split at h
  ·rename_i hr
   exact ⟨hr, β, σ, g, h⟩
  ·cases h
 |n + 1, q, L, β, σ, a, w, K, g, hz, hL, hS, hE, hq, h => by
  simp only [evDraw] at h
  split at h
  ·rename_i hr
   exact wpAnyL_done hr ⟨β, σ, g, h⟩ _
  ·rename_i i is hr
   split at h
   ·rename_i j hj
    obtain ⟨o, ho, hmem, hqo, hfree⟩ := firstQuiet_spec hj
    rw [ho] at h
    dsimp only at h
    obtain ⟨σ', g', hob, hK⟩ := guarded_ok g h
    have hr' : j ∈ Region.ready .any ops L := by rw [hr]; exact hmem
    have hlt : j < ops.size := by
     rcases Nat.lt_or_ge j ops.size with h | h
     ·exact h
     ·rw [Array.getElem?_eq_none h] at ho
      cases ho
    cases hw : Region.wanted o (yielded ops.toList.toArray a.tmps) with
    |true =>
     rw [hw] at hK
     dsimp only at hK
     split at hK
     ·rename_i hquiet
      have h0 : lvlAt P Γ ops j = 0 := by
       unfold lvlAt
       rw [ho]
       exact quiet_lvl hquiet
      obtain ⟨x, v, ⟨h1, h2⟩, h3⟩ := quiet_ok hquiet g' hK
      refine wpAnyL_first ho (Region.noSelect_spec hs) (fun _ _ _ h => h) (fun L w h => h.mono (lvl_set_le j)) (fun L w h => h.mono (lvl_set_quiet h0)) n L a w (Region.free_spec ho hfree) hr' hL
       (.inl ⟨by simpa using hw, fun w'' hw'' => h3 w'' fun hl b hb ht => ?_⟩) hS ?_
      ·rcases hqo with hqo | hqo
       ·obtain ⟨rfl, rfl, e⟩ := hq hqo
        rw [hob, e] at ht
        obtain ⟨L', hL', hj', hw'⟩ := hw''
        refine hw'.2 b hb fun ht' => ht (ht'.up (lvlSet_le.2 fun k hk hkL => ?_))
        refine lvlSet_le.1 (Nat.le_refl _) k hk ?_
        cases hc : (waits ops j).contains k with
        |false => rfl
        |true =>
         have := waits_spec hL' (by simpa using hc) hkL
         rw [Array.getD_eq_getD_getElem?] at this hj'
         cases hg : L'[j]? with
         |none => rw [hg] at this; cases this
         |some b => rw [hg] at this hj'; simp at this hj'; rw [this] at hj'; cases hj'
       ·rw [hqo] at hl
        cases hl
      ·refine evDraw_sound hΓ hs n q _ β _ _ w K (Res.put ⟨g'.W, g'.A, h2⟩ o.dst) (by simpa using hz) (hL.set hr') (hS.mono (lvl_set_le j)) ?_ (fun hq' => ?_) h1
       ·have hE' := hE.mono (lvl_set_le (P := P) (Γ := Γ) (ops := ops) (L := L) j)
        cases o.dst <;> simpa only [St.put, hob] using hE'
       ·cases o.dst <;> simpa only [St.put, hob] using hq hq'
     ·cases hK
    |false =>
     rw [hw] at hK
     dsimp only at hK
     by_cases h0 : lvlAt P Γ ops j = 0
     ·refine wpAnyL_first ho (Region.noSelect_spec hs) (fun _ _ _ h => h) (fun L w h => h.mono (lvl_set_le j)) (fun L w h => h.mono (lvl_set_quiet h0)) n L a w (Region.free_spec ho hfree) hr' hL (.inr ⟨by simpa using hw, rfl⟩) hS ?_
      refine evDraw_sound hΓ hs n q _ β _ _ w K (skip_good g' o.dst) (by simpa using hz) (hL.set hr') (hS.mono (lvl_set_le j)) ?_ (fun hq' => ?_) hK
      ·have hE' := hE.mono (lvl_set_le (P := P) (Γ := Γ) (ops := ops) (L := L) j)
       cases o.dst <;> simpa only [St.put, hob] using hE'
      ·cases o.dst <;> simpa only [St.put, hob] using hq hq'
     ·exact absurd (firstQuiet_lvl hj) h0
   ·have one : ∀ σ1 : St, Good cx β σ1 a w -> σ1.ob = σ.ob -> ∀ i' : Nat, i' ∈ Region.ready .any ops L -> (match ops[i']? with
      |some o => guarded ops.toList o σ1 fun b σ =>
       match b with
       |true => if lvlDyn P Γ o σ ≤ lvlOp P Γ o then evOp P Γ o σ fun x σ => evDraw P Γ ops n false (L.setIfInBounds i' true) (σ.put o.dst x) K else none
       |false => evDraw P Γ ops n q (L.setIfInBounds i' true) (σ.put o.dst (.v undef)) K
      |none => none) = some r -> wpOp P ops (AtEnd cx K r) i' (fun a' w' => Held P Γ ops β0 ob0 w0 (L.setIfInBounds i' true) w' ∧ wpAnyL P .any ops (AtEnd cx K r) (Held P Γ ops β0 ob0 w0) n (L.setIfInBounds i' true) a' w') a w := by
     intro σ1 g1 hob1 i' hri h
     split at h
     ·rename_i o ho
      obtain ⟨σ', g', hob, hK⟩ := guarded_ok g1 h
      replace hob := hob.trans hob1
      have hlt : i' < ops.size := by
       rcases Nat.lt_or_ge i' ops.size with h | h
       ·exact h
       ·rw [Array.getElem?_eq_none h] at ho
        cases ho
      unfold wpOp
      rw [ho]
      dsimp only
      cases hw : Region.wanted o (yielded ops.toList.toArray a.tmps) with
      |true =>
       rw [hw] at hK
       dsimp only at hK
       rw [if_pos (by simp)]
       split at hK
       ·rename_i hlv
        refine .inl (Oper.wp_mono ?_ (evOp_sound (Q := AtEnd cx K r) hΓ g' hK))
        rintro a' w' ⟨x, v, σ2, β2, h1, rfl, h2, h3, h4⟩
        have hle : lvlDyn P Γ o σ' ≤ lvlSet P Γ ops fun j => (L.setIfInBounds i' true).getD j false := by
         refine Nat.le_trans hlv ?_
         have e : lvlOp P Γ o = lvlAt P Γ ops i' := by unfold lvlAt; rw [ho]
         rw [e]
         refine lvlSet_le.1 (Nat.le_refl _) i' hlt ?_
         simp [hz, hlt]
        have hS' : Held P Γ ops β0 ob0 w0 (L.setIfInBounds i' true) w' := by
         refine ⟨Nat.le_trans hS.1 h3.size, fun b hb ht => ?_⟩
         rw [h3.blk b (Nat.lt_of_lt_of_le hb hS.1) fun ht' => ht (hE.sub _ (lvl_set_le i') b hb ?_), hS.2 b hb fun ht' => ht (ht'.up (lvl_set_le i'))]
         rw [← hob]
         exact ht'.up hle
        refine ⟨hS', evDraw_sound hΓ hs n false _ β2 _ _ w' K (h2.put o.dst) (by simpa using hz) (hL.set hri) hS' ?_ (fun hq' => by cases hq') h1⟩
        have hE' : Ext (lvlSet P Γ ops fun j => (L.setIfInBounds i' true).getD j false) β0 ob0 w0 β2 σ2.ob := (hE.mono (lvl_set_le i')).trans (hob ▸ (h4.mono hle).less hS.1)
        cases o.dst <;> simpa only [St.put] using hE'
       ·cases hK
      |false =>
       rw [hw] at hK
       dsimp only at hK
       rw [if_neg (by simp)]
       refine ⟨hS.mono (lvl_set_le i'), evDraw_sound hΓ hs n q _ β _ _ w K (skip_good g' o.dst) (by simpa using hz) (hL.set hri) (hS.mono (lvl_set_le i')) ?_ (fun hq' => ?_) hK⟩
       ·have hE' := hE.mono (lvl_set_le (P := P) (Γ := Γ) (ops := ops) (L := L) i')
        cases o.dst <;> simpa only [St.put, hob] using hE'
       ·cases o.dst <;> simpa only [St.put, hob] using hq hq'
     ·cases h
    split at h
    ·rename_i his
     have his : is = [] := List.isEmpty_iff.1 his
     subst his
     refine ⟨fun h0 => (by rw [h0] at hr; cases hr), fun i' hi' => ?_⟩
     have e : i' = i := by rw [hr] at hi'; simpa using hi'
     subst e
     exact one σ g rfl i' hi' h
    ·obtain ⟨σ1, g1, hob1, h⟩ := knowing_ok g h
     split at h
     ·rename_i j hj
      obtain ⟨o, ho, hmem, h0, hfree⟩ := firstSkip_spec hj
      rw [ho] at h
      dsimp only at h
      obtain ⟨σ', g', hob, hK⟩ := guarded_ok g1 h
      replace hob := hob.trans hob1
      have hr' : j ∈ Region.ready .any ops L := by rw [hr]; exact hmem
      cases hw : Region.wanted o (yielded ops.toList.toArray a.tmps) with
      |true =>
       rw [hw] at hK
       cases hK
      |false =>
       rw [hw] at hK
       dsimp only at hK
       refine wpAnyL_first ho (Region.noSelect_spec hs) (fun _ _ _ h => h) (fun L w h => h.mono (lvl_set_le j)) (fun L w h => h.mono (lvl_set_quiet h0)) n L a w (Region.free_spec ho hfree) hr' hL (.inr ⟨by simpa using hw, rfl⟩) hS ?_
       refine evDraw_sound hΓ hs n q _ β _ _ w K (skip_good g' o.dst) (by simpa using hz) (hL.set hr') (hS.mono (lvl_set_le j)) ?_ (fun hq' => ?_) hK
       ·have hE' := hE.mono (lvl_set_le (P := P) (Γ := Γ) (ops := ops) (L := L) j)
        cases o.dst <;> simpa only [St.put, hob] using hE'
       ·cases o.dst <;> simpa only [St.put, hob] using hq hq'
     ·split at h
      ·rename_i i2 _ _ _ _
       obtain ⟨ha, hb⟩ := both_some h
       refine ⟨fun h0 => (by rw [h0] at hr; cases hr), fun i' hi' => ?_⟩
       have e : i' = i ∨ i' = i2 := by rw [hr] at hi'; simpa using hi'
       rcases e with rfl | rfl
       ·exact one σ1 g1 hob1 _ hi' ha
       ·exact one σ1 g1 hob1 _ hi' hb
      ·rename_i i2 i3 _ _ _ _
       obtain ⟨ha, hbc⟩ := both_some h
       obtain ⟨hb, hc⟩ := both_some hbc
       refine ⟨fun h0 => (by rw [h0] at hr; cases hr), fun i' hi' => ?_⟩
       have e : i' = i ∨ i' = i2 ∨ i' = i3 := by rw [hr] at hi'; simpa using hi'
       rcases e with rfl | rfl | rfl
       ·exact one σ1 g1 hob1 _ hi' ha
       ·exact one σ1 g1 hob1 _ hi' hb
       ·exact one σ1 g1 hob1 _ hi' hc
      ·cases h

/-! ### What has come up, told by a number's bits -/

theorem bit_set (m i j : Nat) : bit (setBit m j) i = (decide (i = j) || bit m i) := by
 have e : ∀ m i, bit m i = m.testBit i := by
  intro m i
  unfold bit
  rw [Nat.testBit]
  have h : (Nat.land (Nat.shiftRight m i) 1) = 1 &&& (m >>> i) := Nat.and_comm _ _
  rw [h]
  have h2 : 1 &&& (m >>> i) = 0 ∨ 1 &&& (m >>> i) = 1 := by
   rw [Nat.and_comm, Nat.and_one_is_mod]
   omega
  rcases h2 with h2 | h2 <;> rw [h2] <;> rfl
 rw [e, e]
 show (m ||| 1 <<< j).testBit i = _
 rw [Nat.testBit_or, Nat.shiftLeft_eq, Nat.one_mul, Nat.testBit_two_pow, Bool.or_comm]
 congr 1
 simp only [eq_comm]

theorem bit_zero (i : Nat) : bit 0 i = false := by
 unfold bit
 have : Nat.shiftRight 0 i = 0 := Nat.zero_shiftRight i
 rw [this]
 rfl

def arr (n m : Nat) : Array Bool := ((List.range n).map (bit m)).toArray

theorem arr_size (n m : Nat) : (arr n m).size = n := by simp [arr]
theorem arr_getD (n m i : Nat) (d : Bool) : (arr n m).getD i d = if i < n then bit m i else d := by
 rw [Array.getD_eq_getD_getElem?]
 unfold arr
 simp only [List.getElem?_toArray, List.getElem?_map]
 split
 ·rename_i h
  rw [List.getElem?_range h]
  rfl
 ·rename_i h
  rw [List.getElem?_eq_none (by simpa using h)]
  rfl

theorem arr_set (n m j : Nat) : arr n (setBit m j) = (arr n m).setIfInBounds j true := by
 apply Array.ext
 ·simp [arr_size]
 ·intro i h1 h2
  simp only [arr_size] at h1
  rw [Array.getElem_setIfInBounds]
  ·have e : ∀ m, (arr n m)[i]'(by rw [arr_size]; exact h1) = bit m i := by
    intro m
    unfold arr
    simp
   rw [e, e, bit_set]
   by_cases hij : j = i
   ·subst hij
    simp
   ·rw [if_neg hij, decide_eq_false (fun h => hij h.symm)]
    rfl
  ·rw [arr_size]
   exact h1

theorem arr_zero (n : Nat) : arr n 0 = Array.replicate n false := by
 apply Array.ext
 ·simp [arr_size]
 ·intro i h1 h2
  have e : ∀ (h : i < (arr n 0).size), (arr n 0)[i]'h = bit 0 i := by
   unfold arr
   simp
  rw [e, bit_zero]
  simp

theorem readyM_eq {ops : Array Oper} (hw : within ops = true) (m : Nat) : readyM m 0 ops.toList = Region.ready .any ops (arr ops.size m) := by
 have key : ∀ (l : List Oper) (k : Nat), (∀ j, l[j]? = ops[k + j]?) -> k + l.length = ops.size -> readyM m k l = (List.range' k l.length).filter fun i =>
   !(arr ops.size m).getD i true && ((ops[i]?).map (·.after.all fun e => !Region.binds .any e || (arr ops.size m).getD e.on false)).getD false := by
  intro l
  induction l with
  |nil => intro k _ _; rfl
  |cons o l ih =>
   intro k hl hk
   simp only [List.length_cons] at hk
   have h0 : ops[k]? = some o := by
    have := hl 0
    simpa using this.symm
   have ih' := ih (k + 1) (fun j => by
    have := hl (j + 1)
    simp at this
    rw [this]
    congr 1
    omega) (by omega)
   have hk' : k < ops.size := by omega
   rw [List.length_cons, List.range'_succ, List.filter_cons, h0, arr_getD, if_pos hk']
   simp only [readyM, Option.map_some, Option.getD_some]
   have e : o.after.toList.all (fun e => !Region.binds .any e || bit m e.on) = o.after.all fun e => !Region.binds .any e || (arr ops.size m).getD e.on false := by
    rw [← Array.all_toList]
    have hin : ∀ e ∈ o.after.toList, e.on < ops.size := by
     intro e he
     have h1 := List.all_eq_true.1 hw o (by
      rw [← Array.getElem?_toList] at h0
      exact List.mem_of_getElem? h0)
     simpa using List.all_eq_true.1 h1 e he
    rw [Bool.eq_iff_iff, List.all_eq_true, List.all_eq_true]
    constructor
    ·intro h e he
     rw [arr_getD, if_pos (hin e he)]
     exact h e he
    ·intro h e he
     have := h e he
     rw [arr_getD, if_pos (hin e he)] at this
     exact this
   rw [e, ih']
   split
   ·rename_i hc
    simp only [hc, if_true]
   ·rename_i hc
    simp only [hc, Bool.false_eq_true, if_false]
 have := key ops.toList 0 (fun j => by simp) (by simp)
 rw [this, Region.ready, List.range_eq_range', Array.length_toList]

theorem freeFrom_eq {ops : Array Oper} (m i : Nat) (oi : Oper) (hi : ops[i]? = some oi) : freeFrom ops m i oi 0 ops.toList = Region.free .any ops (arr ops.size m) i := by
 have key : ∀ (l : List Oper) (k : Nat), (∀ j, l[j]? = ops[k + j]?) -> k + l.length = ops.size -> freeFrom ops m i oi k l = (List.range' k l.length).all fun j => j == i || (arr ops.size m).getD j true || match ops[j]? with
   |some oj => oj.after.any (fun e => Region.binds .any e && e.on == i) || oi.apart ops oj
   |none => true := by
  intro l
  induction l with
  |nil => intro k _ _; rfl
  |cons o l ih =>
   intro k hl hk
   simp only [List.length_cons] at hk
   have h0 : ops[k]? = some o := by
    have := hl 0
    simpa using this.symm
   have ih' := ih (k + 1) (fun j => by
    have := hl (j + 1)
    simp at this
    rw [this]
    congr 1
    omega) (by omega)
   have hk' : k < ops.size := by omega
   rw [List.length_cons, List.range'_succ, List.all_cons, h0, arr_getD, if_pos hk']
   simp only [freeFrom, ih', ← Array.any_toList]
   congr 1
   simp only [Bool.or_assoc]
 have := key ops.toList 0 (fun j => by simp) (by simp)
 rw [this, Region.free, hi, List.range_eq_range', Array.length_toList]
 rfl

theorem firstQuietM_eq {q : Bool} {ops : Array Oper} {m : Nat} : ∀ (l : List Nat), firstQuietM P Γ q ops m σ l = (firstQuiet P Γ q ops (arr ops.size m) σ l).bind fun j => (ops[j]?).map fun o => (j, o)
 |[] => rfl
 |i :: is => by
  simp only [firstQuietM, firstQuiet, Array.getElem?_toList]
  cases ho : ops[i]? with
  |none => rfl
  |some o =>
   dsimp only
   rw [freeFrom_eq m i o ho]
   split
   ·rw [Option.bind_some, ho]
    rfl
   ·exact firstQuietM_eq is

theorem firstSkipM_eq {ops : Array Oper} {m : Nat} : ∀ (l : List Nat), firstSkipM P Γ ops m σ l = (firstSkip P Γ ops (arr ops.size m) σ l).bind fun j => (ops[j]?).map fun o => (j, o)
 |[] => rfl
 |i :: is => by
  simp only [firstSkipM, firstSkip, Array.getElem?_toList]
  cases ho : ops[i]? with
  |none => rfl
  |some o =>
   dsimp only
   rw [freeFrom_eq m i o ho]
   split
   ·rw [Option.bind_some, ho]
    rfl
   ·exact firstSkipM_eq is

theorem evDrawM_eq {ops : Array Oper} (hw : within ops = true) : ∀ (n : Nat) (q : Bool) (m : Nat) (σ : St) (K : St -> Option R), evDrawM P Γ ops n q m σ K = evDraw P Γ ops n q (arr ops.size m) σ K
 |0, q, m, σ, K => by
  simp only [evDrawM, evDraw, readyM_eq hw]
 |n + 1, q, m, σ, K => by
  simp only [evDrawM, evDraw, readyM_eq hw, St.putK_eq]
  split
  ·rfl
  ·rename_i i is hr
   rw [firstQuietM_eq]
   cases hq : firstQuiet P Γ q ops (arr ops.size m) σ (i :: is) with
   |some j =>
    obtain ⟨o, ho, _⟩ := firstQuiet_spec hq
    simp only [Option.bind_some, ho, Option.map_some]
    congr 1
    funext b σ
    cases b with
    |true =>
     dsimp only
     split
     ·congr 1
      funext x σ
      rw [evDrawM_eq hw n, arr_set]
     ·rfl
    |false =>
     dsimp only
     rw [evDrawM_eq hw n, arr_set]
   |none =>
    simp only [Option.bind_none]
    split
    ·rw [Array.getElem?_toList]
     cases ho : ops[i]? with
     |none => rfl
     |some o =>
      dsimp only
      congr 1
      funext b σ
      cases b with
      |true =>
       dsimp only
       split
       ·congr 1
        funext x σ
        rw [evDrawM_eq hw n, arr_set]
       ·rfl
      |false =>
       dsimp only
       rw [evDrawM_eq hw n, arr_set]
    ·congr 1
     funext σ
     rw [firstSkipM_eq]
     cases hs : firstSkip P Γ ops (arr ops.size m) σ (i :: is) with
     |none =>
      simp only [Option.bind_none]
      match is with
      |[] => rfl
      |[i2] =>
       dsimp only
       congr 1
       ·rw [Array.getElem?_toList]
        cases ho : ops[i]? with
        |none => rfl
        |some o =>
         dsimp only
         congr 1
         funext b σ
         cases b with
         |true =>
          dsimp only
          split
          ·congr 1
           funext x σ
           rw [evDrawM_eq hw n, arr_set]
          ·rfl
         |false =>
          dsimp only
          rw [evDrawM_eq hw n, arr_set]
       ·rw [Array.getElem?_toList]
        cases ho : ops[i2]? with
        |none => rfl
        |some o =>
         dsimp only
         congr 1
         funext b σ
         cases b with
         |true =>
          dsimp only
          split
          ·congr 1
           funext x σ
           rw [evDrawM_eq hw n, arr_set]
          ·rfl
         |false =>
          dsimp only
          rw [evDrawM_eq hw n, arr_set]
      |[i2, i3] =>
       dsimp only
       congr 1
       ·rw [Array.getElem?_toList]
        cases ho : ops[i]? with
        |none => rfl
        |some o =>
         dsimp only
         congr 1
         funext b σ
         cases b with
         |true =>
          dsimp only
          split
          ·congr 1
           funext x σ
           rw [evDrawM_eq hw n, arr_set]
          ·rfl
         |false =>
          dsimp only
          rw [evDrawM_eq hw n, arr_set]
       ·congr 1
        ·rw [Array.getElem?_toList]
         cases ho : ops[i2]? with
         |none => rfl
         |some o =>
          dsimp only
          congr 1
          funext b σ
          cases b with
          |true =>
           dsimp only
           split
           ·congr 1
            funext x σ
            rw [evDrawM_eq hw n, arr_set]
           ·rfl
          |false =>
           dsimp only
           rw [evDrawM_eq hw n, arr_set]
        ·rw [Array.getElem?_toList]
         cases ho : ops[i3]? with
         |none => rfl
         |some o =>
          dsimp only
          congr 1
          funext b σ
          cases b with
          |true =>
           dsimp only
           split
           ·congr 1
            funext x σ
            rw [evDrawM_eq hw n, arr_set]
           ·rfl
          |false =>
           dsimp only
           rw [evDrawM_eq hw n, arr_set]
      |_ :: _ :: _ :: _ => rfl
     |some j =>
      obtain ⟨o, ho, _⟩ := firstSkip_spec hs
      simp only [Option.bind_some, ho, Option.map_some]
      congr 1
      funext b σ
      cases b with
      |true => rfl
      |false =>
       dsimp only
       rw [evDrawM_eq hw n, arr_set]

end Go.Ev
