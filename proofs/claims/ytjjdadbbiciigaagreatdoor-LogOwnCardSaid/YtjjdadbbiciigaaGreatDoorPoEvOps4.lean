/- Each operation of the abstract machine is one of the machine's: those that make or write memory. -/
import Derived.Test.YtjjdadbbiciigaaGreatDoorPoEvOps3
namespace Go.Ev
set_option linter.unusedVariables false
set_option linter.unusedSimpArgs false
set_option linter.unusedSectionVars false
variable [tG : TabG]

variable {P : Program} {R : Type} {cx : Cx} {β β' : List Value} {ob ob' : List O} {w w' : World} {σ σ' : St} {a a' : Act}
variable {o : Oper} {K : AV -> St -> Option R} {r : R} {Q : Exit -> Act -> World -> Prop} {Γ : FuncId -> Option Sum}

theorem newBox {t : TypeId} {cs : List AV} {vs : List Value} (hW : WRep cx β ob w) {fr : List AV} (hA : ARep w (okB cx β ob) β fr a) (hR : RepL w (okB cx β ob) β cs vs) :
  Res cx (β ++ [.pointer (some ⟨w.heap.size, 0, none⟩)]) ⟨fr, ob ++ [.box t cs]⟩ (.ptr ob.length 0) a (.pointer (some ⟨w.heap.size, 0, none⟩)) (w.alloc (.cells vs.toArray t)) := by
 have hnew : (O.box t cs).live = true -> ∀ b, blk (.pointer (some ⟨w.heap.size, 0, none⟩)) b -> w.heap.size ≤ b := fun _ b hb => by
  simp [blk, blk1] at hb
  omega
 have hm : ∀ fl b, okB cx β ob fl b -> b < w.heap.size -> okB cx (β ++ [.pointer (some ⟨w.heap.size, 0, none⟩)]) (ob ++ [.box t cs]) fl b ∧ (w.alloc (.cells vs.toArray t)).heap[b]? = w.heap[b]? :=
  fun fl b hok hb => ⟨ok_snoc hW.len hnew hok hb, (Same.alloc w _).blk b hb⟩
 refine ⟨hW.new (Same.alloc w _) hnew ⟨w.heap.size, vs, rfl, heap_alloc_new w _, hR.mono hm fun _ _ h => get_snoc h⟩, hA.mono hm fun _ _ h => get_snoc h, .ptr _ _ _ ?_⟩
 rw [← hW.len]
 simp

theorem zeroA_run {t : TypeId} {cs : List AV} (h : zeroA P t = some cs) : ∃ z, cs = z.cells.toList.map .v ∧ ∀ w, (zeroValue t).run P w = .ok z w := by
 unfold zeroA at h
 cases hi : P.info? t with
 |none => rw [hi] at h; cases h
 |some i =>
  rw [hi] at h
  cases hz : i.zero with
  |none => simp [hz] at h
  |some z =>
   simp [hz] at h
   exact ⟨z, h.symm, fun w => by simp [zeroValue, typeInfo, hi, hz]⟩

theorem wp_alloc {t : TypeId} (ho : o.op = .alloc t) (g : Good cx β σ a w) (h : evOp P Γ o σ K = some r) (lvl : Nat) : Goal P cx K r o lvl β σ a w Q := by
 simp only [evOp, ho] at h
 split at h
 ·rename_i cs hz
  obtain ⟨z, rfl, hrun⟩ := zeroA_run hz
  obtain ⟨β', h1, h2, h3, h4, _, _, _⟩ := promL_good (P := P) (a := a) (flatT P 12 t) _ z.cells.toList β σ g.W g.A (RepL.consts _ _ _ _)
  have hb := newBox (t := t) h1 h2 h3
  exact wp_value (by simp [execOp, ho, Instr.alloc, Sem.run_bind, hrun, newVar, newRow]) ⟨_, _, _, _, h, rfl, hb, .of_same (Same.alloc w _) _, (h4.mono (Nat.zero_le _)).trans (Ext.snoc h1.len (fun _ b hb => by simp [blk, blk1] at hb; omega) _)⟩
 ·cases h

theorem wp_box {t : TypeId} {x : Operand} (ho : o.op = .box t x) (g : Good cx β σ a w) (h : evOp P Γ o σ K = some r) (lvl : Nat) : Goal P cx K r o lvl β σ a w Q := by
 simp only [evOp, ho] at h
 split at h
 ·rename_i cs hc
  obtain ⟨hr, _⟩ := cells_rep g.W hc (g.ev x)
  obtain ⟨β', h1, h2, h3, h4, _, _, _⟩ := promL_good (P := P) (a := a) (flatT P 12 t) _ _ β σ g.W g.A hr
  have hb := newBox (t := t) h1 h2 h3
  exact wp_value (by simp [execOp, ho, Instr.box, Sem.run_bind, newVar, newRow]) ⟨_, _, _, _, h, rfl, hb, .of_same (Same.alloc w _) _, (h4.mono (Nat.zero_le _)).trans (Ext.snoc h1.len (fun _ b hb => by simp [blk, blk1] at hb; omega) _)⟩
 ·cases h


/-! ### Cells taken for an element -/

theorem okB.weaken {fl fl' : Bool} (h : fl' = true -> fl = true) {b : Nat} (hb : okB cx β ob fl b) : okB cx β ob fl' b := by
 refine ⟨hb.1, ?_⟩
 rcases hb.2 with h1 | ⟨h1, h2⟩
 ·exact .inl h1
 ·cases fl' with
  |true => rw [h rfl] at h1; cases h1
  |false => exact .inr ⟨rfl, h2⟩

theorem Cel.weaken {fl fl' : Bool} (h : fl' = true -> fl = true) {t : Ty} {y : t.S} {vs : List Value} (hc : Cel w (okB cx β ob fl) t y vs) : Cel w (okB cx β ob fl') t y vs :=
 hc.mono fun _ hb _ => ⟨hb.weaken h, rfl⟩

theorem seenF_rep (hW : WRep cx β ob w) {x : AV} {v : Value} {s : Sq} (h : seenF ob x = some s) (hr : RepV w (okB cx β ob) β x v) :
  ∃ A c, v = .slice A s.xs.length c ∧ s.xs.length ≤ c ∧ RowR w (okB cx β ob s.fl) s.t s.xs A := by
 unfold seenF at h
 split at h
 ·obtain rfl := Option.some.inj h
  cases hr with
  |rd _ A c hc hrow => exact ⟨A, c, rfl, hc, hrow⟩
 ·split at h
  ·rename_i s' ho
   obtain rfl := Option.some.inj h
   cases hr with
   |nst _ _ vs hb =>
    obtain ⟨y, vs', A, c, e, hy, hc, hrow⟩ := hW.obj _ _ _ ho hb
    have e := List.cons.inj (by simpa using e : v :: vs = y :: vs')
    obtain ⟨rfl, rfl⟩ := e
    exact ⟨A, c, hy, hc, hrow⟩
  ·cases h
 ·split at h
  ·rename_i s' ho
   obtain rfl := Option.some.inj h
   cases hr with
   |own _ _ hb => exact hW.obj _ _ _ ho hb
  ·cases h
 ·split at h
  ·rename_i i z lo n _ s' ho
   split at h
   ·rename_i hz
    obtain rfl := Option.some.inj h
    cases hr with
    |view _ _ _ _ A0 L c0 A hb hn hL hA =>
     obtain ⟨A', c', he, hc', hrow⟩ := hW.obj _ _ _ ho hb
     obtain ⟨rfl, rfl, rfl⟩ := Value.slice.inj he
     have hl := sub_len hn
     refine ⟨A, c0 - lo, by rw [hl], by rw [hl]; omega, ?_⟩
     rcases hA with rfl | ⟨e1, e2⟩
     ·rw [← hz]
      exact hrow.sub hn
     ·intro hpos
      rw [hl] at hpos
      omega
   ·cases h
  ·cases h
 ·cases h

theorem RepL.single {ok : Bool -> Nat -> Prop} {x : AV} {vs : List Value} (h : RepL w ok β [x] vs) : ∃ v, vs = [v] ∧ RepV w ok β x v := by
 match vs, h with
 |[], h => simp [RepL] at h
 |[v], h => exact ⟨v, rfl, h.2 0 x v rfl rfl⟩
 |_ :: _ :: _, h => simp [RepL] at h

theorem as_eq {s : Sq} {t : Ty} {xs : List t.S} (h : s.as t = some xs) : ∃ h : s.t = t, xs = h ▸ s.xs := by
 unfold Sq.as at h
 split at h
 ·rename_i ht
  exact ⟨ht, (Option.some.inj h).symm⟩
 ·cases h

theorem unre_rep (hW : WRep cx β ob w) : ∀ (t : Ty) (cs : List AV) (vs : List Value) (fl : Bool) (y : t.S), unre ob t cs = some (fl, y) -> RepL w (okB cx β ob) β cs vs -> Cel w (okB cx β ob fl) t y vs := by
 intro t
 induction t with
 |int k =>
  intro cs vs fl y h hr
  simp only [unre] at h
  split at h
  ·rename_i k' n
   split at h
   ·rename_i hk
    obtain ⟨rfl, rfl⟩ := Prod.mk.inj (Option.some.inj h)
    obtain ⟨v, rfl, hv⟩ := hr.single
    rw [rep_v hv, hk]
    rfl
   ·cases h
  ·cases h
 |bool =>
  intro cs vs fl y h hr
  simp only [unre] at h
  split at h
  ·obtain ⟨rfl, rfl⟩ := Prod.mk.inj (Option.some.inj h)
   obtain ⟨v, rfl, hv⟩ := hr.single
   rw [rep_v hv]
   rfl
  ·cases h
 |str =>
  intro cs vs fl y h hr
  simp only [unre] at h
  split at h
  ·obtain ⟨rfl, rfl⟩ := Prod.mk.inj (Option.some.inj h)
   obtain ⟨v, rfl, hv⟩ := hr.single
   rw [rep_v hv]
   rfl
  ·cases h
 |sl e t ih =>
  intro cs vs fl y h hr
  simp only [unre] at h
  split at h
  ·rename_i x
   obtain ⟨v, rfl, hv⟩ := hr.single
   split at h
   ·rename_i hn
    obtain ⟨rfl, rfl⟩ := Prod.mk.inj (Option.some.inj h)
    rw [isNil_eq hn] at hv
    rw [rep_v hv]
    exact ⟨none, 0, rfl, Nat.le_refl _, fun h0 => absurd h0 (Nat.lt_irrefl 0)⟩
   ·split at h
    ·rename_i s hs
     split at h
     ·split at h
      ·rename_i xs hxs
       obtain ⟨rfl, rfl⟩ := Prod.mk.inj (Option.some.inj h)
       obtain ⟨A, c, rfl, hc, hrow⟩ := seenF_rep hW hs hv
       obtain ⟨ht, rfl⟩ := as_eq hxs
       subst ht
       exact ⟨A, c, rfl, hc, hrow⟩
      ·cases h
     ·cases h
    ·cases h
  ·cases h
 |pr a b iha ihb =>
  intro cs vs fl y h hr
  simp only [unre] at h
  split at h
  ·rename_i x z hx hz
   obtain ⟨rfl, rfl⟩ := Prod.mk.inj (Option.some.inj h)
   refine ⟨vs.take a.sz, vs.drop a.sz, (List.take_append_drop _ _).symm, ?_, ?_⟩
   ·exact (iha _ _ x.1 x.2 hx (hr.take a.sz)).weaken fun h => (Bool.and_eq_true_iff.1 h).1
   ·exact (ihb _ _ z.1 z.2 hz (hr.drop a.sz)).weaken fun h => (Bool.and_eq_true_iff.1 h).2
  ·cases h

/-! ### Freezing -/

theorem freeze1_good (hW : WRep cx β ob w) (x : AV) : WRep cx β (freeze1 ob x) w ∧ ∀ b, LiveB β (freeze1 ob x) b -> LiveB β ob b := by
 unfold freeze1
 split
 ·exact hW.freezeAt _
 ·exact hW.freezeAt _
 ·exact hW.freezeAt _
 ·exact ⟨hW, fun _ h => h⟩

theorem freezeL_good : ∀ (l : List AV) (ob : List O), WRep cx β ob w -> WRep cx β (freezeL ob l) w ∧ ∀ b, LiveB β (freezeL ob l) b -> LiveB β ob b
 |[], ob, hW => ⟨hW, fun _ h => h⟩
 |x :: l, ob, hW => by
  obtain ⟨h1, h2⟩ := freeze1_good hW x
  obtain ⟨h3, h4⟩ := freezeL_good l _ h1
  exact ⟨h3, fun b hb => h2 b (h4 b hb)⟩

theorem okB_freeze {l : List AV} (hW : WRep cx β ob w) {fl : Bool} {b : Nat} (h : okB cx β ob fl b) : okB cx β (freezeL ob l) fl b := okB_of h ((freezeL_good l ob hW).2 b)

theorem freezeAt_len (ob : List O) (i : Nat) : (freezeAt ob i).length = ob.length := by
 rcases freezeAt_cases ob i with e | ⟨s, h1, e⟩ | ⟨s, h1, e⟩ | ⟨s, h1, e⟩ <;> rw [e] <;> simp

theorem freezeL_len : ∀ (l : List AV) (ob : List O), (freezeL ob l).length = ob.length
 |[], ob => rfl
 |x :: l, ob => by
  rw [freezeL, freezeL_len l]
  unfold freeze1
  split <;> first | exact freezeAt_len _ _ | rfl

end Go.Ev
