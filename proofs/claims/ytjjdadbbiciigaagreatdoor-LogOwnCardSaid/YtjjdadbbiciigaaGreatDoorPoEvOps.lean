/- Each operation of the abstract machine is one of the machine's. -/
import Derived.Test.YtjjdadbbiciigaaGreatDoorPoEvWorld
import Derived.Laws.AppendOwnNone
import Derived.Laws.Entries
import Derived.Laws.Cells
import Derived.Great.BuildSlice
namespace Go.Ev
set_option linter.unusedVariables false
set_option linter.unusedSimpArgs false
set_option linter.unusedSectionVars false
variable [tG : TabG]

variable {P : Program} {R : Type} {cx : Cx} {β β' : List Value} {ob ob' : List O} {w w' : World} {σ σ' : St} {a a' : Act}

structure Good (cx : Cx) (β : List Value) (σ : St) (a : Act) (w : World) : Prop where
 W : WRep cx β σ.ob w
 A : ARep w (okB cx β σ.ob) β σ.fr a

theorem ARep.ev {ok : Bool -> Nat -> Prop} {fr : List AV} (h : ARep w ok β fr a) (ob : List O) (x : Operand) : RepV w ok β (St.ev ⟨fr, ob⟩ x) (a.eval x) := by
 cases x with
 |tmp t =>
  show RepV w ok β (fr.getD t .un) (a.tmps.getD t undef)
  by_cases ht : t < fr.length
  ·rw [List.getD_eq_getElem?_getD, List.getElem?_eq_getElem ht]
   exact h.rep t _ (List.getElem?_eq_getElem ht)
  ·rw [List.getD_eq_getElem?_getD, List.getElem?_eq_none (Nat.le_of_not_lt ht)]
   exact .un _
 |const v => exact .v v
 |global g => exact .un _
 |func f => exact .clo f [] [] rfl (fun i x y hx => by simp at hx)

theorem Good.ev (h : Good cx β σ a w) (x : Operand) : RepV w (okB cx β σ.ob) β (σ.ev x) (a.eval x) := h.A.ev σ.ob x

theorem ARep.mono {ok ok' : Bool -> Nat -> Prop} {fr : List AV} (hm : ∀ fl b, ok fl b -> b < w.heap.size -> ok' fl b ∧ w'.heap[b]? = w.heap[b]?)
  (hβ : ∀ (i : Nat) (x : Value), β[i]? = some x -> β'[i]? = some x) (h : ARep w ok β fr a) : ARep w' ok' β' fr a :=
 ⟨h.len, fun i x hx => (h.rep i x hx).mono hm hβ, h.def_⟩

theorem ARep.put {ok : Bool -> Nat -> Prop} {fr : List AV} (h : ARep w ok β fr a) (d : Option Tmp) {x : AV} {v : Value} (hv : RepV w ok β x v) :
  ARep w ok β (St.put ⟨fr, ob⟩ d x).fr (a.put d v) := by
 cases d with
 |none => exact h
 |some d =>
  refine ⟨by simp [St.put, Act.put, h.len], fun i y hy => ?_, h.def_⟩
  rcases mem_set hy with ⟨hne, hy⟩ | ⟨rfl, rfl, hlt⟩
  ·have := h.rep i y hy
   have e : (a.put (some d) v).tmps.getD i undef = a.tmps.getD i undef := by
    simp [Act.put, Array.getElem?_setIfInBounds_ne (Ne.symm hne)]
   rw [e]
   exact this
  ·have hlt' : i < a.tmps.size := h.len ▸ hlt
   have e : (a.put (some i) v).tmps.getD i undef = v := by
    simp [Act.put, hlt']
   rw [e]
   exact hv

def Res (cx : Cx) (β : List Value) (σ : St) (x : AV) (a : Act) (v : Value) (w : World) : Prop :=
 WRep cx β σ.ob w ∧ ARep w (okB cx β σ.ob) β σ.fr a ∧ RepV w (okB cx β σ.ob) β x v

theorem Res.put {x : AV} {v : Value} (h : Res cx β σ x a v w) (d : Option Tmp) : Good cx β (σ.put d x) (a.put d v) w := by
 cases σ with
 |mk fr ob =>
  refine ⟨?_, ?_⟩
  ·cases d <;> exact h.1
  ·cases d <;> exact h.2.1.put (ob := ob) _ h.2.2

def touch (lvl : Nat) (β : List Value) (ob : List O) (b : Nat) : Prop :=
 match lvl with
 |0 => False
 |1 => ∃ (i : Nat) (o : O) (x : Value), ob[i]? = some o ∧ o.rowish = true ∧ β[i]? = some x ∧ blk x b
 |_ => LiveB β ob b

structure Eff (lvl : Nat) (β : List Value) (ob : List O) (w w' : World) : Prop where
 size : w.heap.size ≤ w'.heap.size
 blk : ∀ b, b < w.heap.size -> ¬ touch lvl β ob b -> w'.heap[b]? = w.heap[b]?

theorem Eff.of_same (h : Same w w') (lvl : Nat) : Eff lvl β ob w w' := ⟨h.size, fun b hb _ => h.blk b hb⟩
theorem Eff.refl (lvl : Nat) : Eff lvl β ob w w := .of_same (.refl w) lvl

structure Ext (lvl : Nat) (β : List Value) (ob : List O) (w : World) (β' : List Value) (ob' : List O) : Prop where
 ext : ∀ (i : Nat) (x : Value), β[i]? = some x -> β'[i]? = some x
 sub : ∀ l, lvl ≤ l -> ∀ b, b < w.heap.size -> touch l β' ob' b -> touch l β ob b

theorem Ext.refl (lvl : Nat) (β : List Value) (ob : List O) (w : World) : Ext lvl β ob w β ob := ⟨fun _ _ h => h, fun _ _ _ _ h => h⟩
theorem Ext.trans {lvl : Nat} {β'' : List Value} {ob'' : List O} (h : Ext lvl β ob w β' ob') (k : Ext lvl β' ob' w β'' ob'') : Ext lvl β ob w β'' ob'' :=
 ⟨fun i x hx => k.ext i x (h.ext i x hx), fun l hl b hb ht => h.sub l hl b hb (k.sub l hl b hb ht)⟩
theorem Ext.mono {l l' : Nat} (h : Ext l β ob w β' ob') (hl : l ≤ l') : Ext l' β ob w β' ob' := ⟨h.ext, fun m hm => h.sub m (Nat.le_trans hl hm)⟩

theorem Ext.snoc {o : O} {x : Value} (hlen : β.length = ob.length) (hnew : o.live = true -> ∀ b, blk x b -> w.heap.size ≤ b) (lvl : Nat) : Ext lvl β ob w (β ++ [x]) (ob ++ [o]) := by
 refine ⟨fun _ _ h => get_snoc h, fun l _ b hb ht => ?_⟩
 match l, ht with
 |0, ht => exact ht
 |1, ht =>
  obtain ⟨i, s, y, h1, hs, h2, h3⟩ := ht
  rcases both_snoc hlen h1 h2 with ⟨k1, k2⟩ | ⟨_, k1, k2⟩
  ·exact ⟨i, s, y, k1, hs, k2, h3⟩
  ·subst k2
   have := hnew (by rw [← k1]; exact O.live_of_rowish hs) b h3
   omega
 |l + 2, ht =>
  rcases live_snoc hlen ht with h | ⟨h1, h2⟩
  ·exact h
  ·have := hnew h1 b h2
   omega

def Post (cx : Cx) (K : AV -> St -> Option R) (r : R) (o : Oper) (lvl : Nat) (β : List Value) (ob : List O) (a : Act) (w : World) (a' : Act) (w' : World) : Prop :=
 ∃ x v σ' β', K x σ' = some r ∧ a' = a.put o.dst v ∧ Res cx β' σ' x a v w' ∧ Eff lvl β ob w w' ∧ Ext lvl β ob w β' σ'.ob

theorem wp_value {o : Oper} {K : AV -> St -> Option R} {r : R} {lvl : Nat} {Q : Exit -> Act -> World -> Prop} {v : Value} (hrun : (execOp a.eval o).run P w = .ok (.value v) w')
  (h : Post cx K r o lvl β σ.ob a w (a.put o.dst v) w') : o.wp P a w (Post cx K r o lvl β σ.ob a w) Q := by
 unfold Oper.wp
 rw [hrun]
 exact h

theorem Post.same {o : Oper} {K : AV -> St -> Option R} {r : R} {lvl : Nat} {x : AV} {v : Value} (g : Good cx β σ a w) (hK : K x σ = some r) (hv : RepV w (okB cx β σ.ob) β x v) :
  Post cx K r o lvl β σ.ob a w (a.put o.dst v) w := ⟨x, v, σ, β, hK, rfl, ⟨g.W, g.A, hv⟩, .refl _, .refl _ _ _ _⟩

/-! ### The single operations -/

theorem wp_move {o : Oper} {K : AV -> St -> Option R} {r : R} {Q : Exit -> Act -> World -> Prop} {x : Operand} (ho : o.op = .move x) (g : Good cx β σ a w) (h : K (σ.ev x) σ = some r) (lvl : Nat) :
  o.wp P a w (Post cx K r o lvl β σ.ob a w) Q :=
 wp_value (by simp [execOp, ho]) (Post.same g h (g.ev x))

theorem rep_v {ok : Bool -> Nat -> Prop} {x y : Value} (h : RepV w ok β (.v x) y) : y = x := by cases h; rfl

theorem tyOf_row {t : TypeId} {i : RowI} (h : rowI P t = some i) : ∃ (ie : TypeInfo) (z : Value), P.underlying t = some (.slice i.e) ∧ P.info? i.e = some ie ∧ ie.size = i.t.sz ∧ ie.bytes = i.bytes ∧ ie.zero = some z ∧ zeroOk i.t z.cells.toList = true ∧ i.bytes ≤ 65536 ∧ 0 < i.bytes := by
 unfold rowI at h
 split at h
 ·rename_i e hu
  split at h
  ·rename_i ie ty hi ht
   split at h
   ·rename_i z hz
    split at h
    ·rename_i hc
     obtain rfl := Option.some.inj h
     exact ⟨ie, z, hu, hi, hc.1, rfl, hz, hc.2.1, hc.2.2.1, hc.2.2.2⟩
    ·cases h
   ·cases h
  ·cases h
 ·cases h

theorem prom_good {t : TypeId} {x : AV} {v : Value} (g : Res cx β σ x a v w) : ∃ β', Res cx β' (σ.prom P t x).2 (σ.prom P t x).1 a v w ∧ Ext 0 β σ.ob w β' (σ.prom P t x).2.ob ∧
  (∀ fl b, okB cx β σ.ob fl b -> b < w.heap.size -> okB cx β' (σ.prom P t x).2.ob fl b) ∧ (∀ (i : Nat) (o : O), σ.ob[i]? = some o -> (σ.prom P t x).2.ob[i]? = some o) ∧ (σ.prom P t x).2.fr = σ.fr := by
 unfold St.prom
 split
 ·rename_i hn
  cases hr : rowI P t with
  |none => exact ⟨β, g, .refl _ _ _ _, fun _ _ h _ => h, fun _ _ h => h, rfl⟩
  |some i =>
   have hx : x = .v (.slice none 0 0) := by
    unfold isNil at hn
    split at hn
    ·rfl
    ·cases hn
   subst hx
   have hv := rep_v g.2.2
   subst hv
   cases hnt : nestT i.t with
   |false =>
    simp only [hnt]
    cases hft : fstT i.t with
    |true =>
    have hb0 : ∀ b, blk (.tuple [Value.slice none 0 0].toArray) b -> False := fun b hb => by
     obtain ⟨u, hu, hb⟩ := blk_tuple.1 hb
     simp at hu
     subst hu
     simp [blk1] at hb
    have hW := g.1.new (Same.refl w) (o := O.fst ⟨true, i.e, i.t, []⟩ 0) (x := .tuple [Value.slice none 0 0].toArray) (fun _ b hb => (hb0 b hb).elim)
     ⟨.slice none 0 0, [], [], rfl, ownsM_nil _ _ _, (Nat.zero_mul _).symm, fun u hu => by simp at hu, fun j el hj => by simp at hj, fun _ b hb => (hb0 b hb).elim, fun i j u v b hi hj hu hv => by
      have h1 := get_lt hi
      have h2 := get_lt hj
      simp at h1 h2
      omega⟩
    refine ⟨β ++ [.tuple [Value.slice none 0 0].toArray], ⟨hW, ?_, ?_⟩, Ext.snoc g.1.len (fun _ b hb => (hb0 b hb).elim) 0, fun fl b hok hb => ok_snoc g.1.len (fun _ b hb => (hb0 b hb).elim) hok hb, fun i o h => get_snoc h, rfl⟩
    ·exact g.2.1.mono (fun fl b hok hb => ⟨ok_snoc g.1.len (fun _ b hb => (hb0 b hb).elim) hok hb, rfl⟩) (fun _ _ h => get_snoc h)
    ·refine .nst _ _ [] ?_
     rw [← g.1.len]
     simp
    |false =>
    have hb0 : ∀ b, blk (.slice none 0 0) b -> False := fun b hb => by simp [blk, blk1] at hb
    have hW := g.1.new (Same.refl w) (o := O.row ⟨true, i.e, i.t, []⟩) (x := .slice none 0 0) (fun _ b hb => (hb0 b hb).elim)
     ⟨[], ownsM_nil _ _ _, fun _ b hb => (hb0 b hb).elim, fun j y hy => by simp at hy⟩
    refine ⟨β ++ [.slice none 0 0], ⟨hW, ?_, ?_⟩, Ext.snoc g.1.len (fun _ b hb => (hb0 b hb).elim) 0, fun fl b hok hb => ok_snoc g.1.len (fun _ b hb => (hb0 b hb).elim) hok hb, fun i o h => get_snoc h, rfl⟩
    ·exact g.2.1.mono (fun fl b hok hb => ⟨ok_snoc g.1.len (fun _ b hb => (hb0 b hb).elim) hok hb, rfl⟩) (fun _ _ h => get_snoc h)
    ·refine .own _ _ ?_
     rw [← g.1.len]
     simp
   |true =>
    simp only [hnt]
    have hb0 : ∀ b, blk (.tuple [Value.slice none 0 0].toArray) b -> False := fun b hb => by
     obtain ⟨u, hu, hb⟩ := blk_tuple.1 hb
     simp at hu
     subst hu
     simp [blk1] at hb
    have hz : i.t.sz = 1 := by
     cases ht : i.t <;> rw [ht] at hnt <;> simp [nestT] at hnt
     rfl
    have hW := g.1.new (Same.refl w) (o := O.nst ⟨true, i.e, i.t, []⟩) (x := .tuple [Value.slice none 0 0].toArray) (fun _ b hb => (hb0 b hb).elim)
     ⟨.slice none 0 0, [], rfl, rfl, hz, .inl ⟨rfl, rfl⟩, fun j u hj => by simp at hj, fun _ b hb => (hb0 b hb).elim, fun i j u v b hi hj hu hv => by
      have h1 := get_lt hi
      have h2 := get_lt hj
      simp at h1 h2
      omega⟩
    refine ⟨β ++ [.tuple [Value.slice none 0 0].toArray], ⟨hW, ?_, ?_⟩, Ext.snoc g.1.len (fun _ b hb => (hb0 b hb).elim) 0, fun fl b hok hb => ok_snoc g.1.len (fun _ b hb => (hb0 b hb).elim) hok hb, fun i o h => get_snoc h, rfl⟩
    ·exact g.2.1.mono (fun fl b hok hb => ⟨ok_snoc g.1.len (fun _ b hb => (hb0 b hb).elim) hok hb, rfl⟩) (fun _ _ h => get_snoc h)
    ·refine .nst _ _ [] ?_
     rw [← g.1.len]
     simp
 ·exact ⟨β, g, .refl _ _ _ _, fun _ _ h _ => h, fun _ _ h => h, rfl⟩


/-! ### Cells -/

theorem seen_own {i : Nat} {s : Sq} (h : seen ob (.own i) = some s) : ob[i]? = some (.row s) ∨ ob[i]? = some (.frz s) := by
 have h' : (match ob[i]? with | some (.row s) => some s | some (.frz s) => some s | _ => none) = some s := h
 split at h'
 ·rename_i s' ho
  obtain rfl := Option.some.inj h'
  exact .inl ho
 ·rename_i s' ho
  obtain rfl := Option.some.inj h'
  exact .inr ho
 ·cases h'

theorem RowR.sub {ok : Nat -> Prop} {t : Ty} {xs : List t.S} {A : Option Addr} {lo n : Nat} (h : RowR w ok t xs A) (hn : lo + n ≤ xs.length) :
  RowR w ok t ((xs.drop lo).take n) (A.map (·.add (lo * t.sz))) := by
 have hl : ((xs.drop lo).take n).length = n := by rw [List.length_take, List.length_drop]; omega
 intro hpos
 rw [hl] at hpos
 obtain ⟨a, rfl, hok, hc⟩ := h (by omega)
 refine ⟨a.add (lo * t.sz), rfl, by rw [add_block]; exact hok, fun j hj => ?_⟩
 rw [hl] at hj
 obtain ⟨cs, ⟨y, hy, hcel⟩, hcell⟩ := hc (lo + j) (by omega)
 refine ⟨cs, ⟨y, ?_, hcel⟩, fun k u hu => ?_⟩
 ·rw [List.getElem?_take, if_pos hj, List.getElem?_drop]
  exact hy
 ·rw [add_add, ← hcell k u hu, Nat.add_mul]
  congr 2
  omega

theorem sub_len {s : Sq} {lo n : Nat} (h : lo + n ≤ s.xs.length) : (s.sub lo n).xs.length = n := by
 show ((s.xs.drop lo).take n).length = n
 rw [List.length_take, List.length_drop]
 omega

theorem own_slice (hW : WRep cx β ob w) {i : Nat} {s : Sq} (h : seen ob (.own i) = some s) {x : Value} (hx : β[i]? = some x) :
  ∃ A c, x = .slice A s.xs.length c ∧ s.xs.length ≤ c ∧ (∀ (ok : Nat -> Prop), (∀ b, okB cx β ob s.fl b -> b < w.heap.size -> ok b) -> (∀ b, blk x b -> ok b) -> RowR w ok s.t s.xs A) := by
 rcases seen_own h with ho | ho
 ·have hr := hW.obj i _ x ho hx
  obtain ⟨A, c, rfl, hc, _⟩ := row_reads (ok' := fun _ _ => True) (fl := s.fl) hr (fun _ _ => trivial) (fun _ _ _ => trivial)
  refine ⟨A, c, rfl, hc, fun ok h1 h2 => ?_⟩
  obtain ⟨A', c', he, _, hr'⟩ := row_reads (ok' := fun _ => ok) (fl := s.fl) hr h2 h1
  obtain ⟨rfl, _, rfl⟩ := Value.slice.inj he
  exact hr'
 ·obtain ⟨A, c, rfl, hc, hr⟩ := hW.obj i _ x ho hx
  exact ⟨A, c, rfl, hc, fun ok h1 h2 => hr.mono fun b hb hlt => ⟨h1 b hb hlt, rfl⟩⟩

theorem seen_view {i z lo n : Nat} {s' : Sq} (h : seen ob (.view i z lo n) = some s') : ∃ s, seen ob (.own i) = some s ∧ s.t.sz = z ∧ s' = s.sub lo n := by
 have h' : (match ob[i]? with | some (.row s) => if s.t.sz = z then some (s.sub lo n) else none | some (.frz s) => if s.t.sz = z then some (s.sub lo n) else none | _ => none) = some s' := h
 split at h'
 ·rename_i s ho
  split at h'
  ·rename_i hz
   refine ⟨s, ?_, hz, (Option.some.inj h').symm⟩
   show (match ob[i]? with | some (.row s) => some s | some (.frz s) => some s | _ => none) = some s
   rw [ho]
  ·cases h'
 ·rename_i s ho
  split at h'
  ·rename_i hz
   refine ⟨s, ?_, hz, (Option.some.inj h').symm⟩
   show (match ob[i]? with | some (.row s) => some s | some (.frz s) => some s | _ => none) = some s
   rw [ho]
  ·cases h'
 ·cases h'

theorem view_slice (hW : WRep cx β ob w) {ok0 : Bool -> Nat -> Prop} {i z lo n : Nat} {s' : Sq} (h : seen ob (.view i z lo n) = some s') {v : Value} (hr : RepV w ok0 β (.view i z lo n) v) :
  ∃ s x A c, seen ob (.own i) = some s ∧ s.t.sz = z ∧ s' = s.sub lo n ∧ lo + n ≤ s.xs.length ∧ β[i]? = some x ∧ v = .slice A n c ∧ n ≤ c ∧
   (∀ (ok : Nat -> Prop), (∀ b, okB cx β ob s.fl b -> b < w.heap.size -> ok b) -> (∀ b, blk x b -> ok b) -> RowR w ok s'.t s'.xs A) := by
 obtain ⟨s, h1, h2, rfl⟩ := seen_view h
 cases hr with
 |view _ _ _ _ A0 L c0 A hb hn hL hA =>
  obtain ⟨A', c', he, hc', hrow⟩ := own_slice hW h1 hb
  obtain ⟨rfl, rfl, rfl⟩ := Value.slice.inj he
  refine ⟨s, _, A, _, h1, h2, rfl, hn, hb, rfl, by omega, fun ok k1 k2 => ?_⟩
  rcases hA with rfl | ⟨e1, e2⟩
  ·rw [← h2]
   exact (hrow ok k1 k2).sub hn
  ·intro hpos
   rw [sub_len hn] at hpos
   omega

theorem innAt_some {i j : Nat} {q : Sq} (h : innAt ob i j = some q) : ∃ s, ob[i]? = some (.nst s) ∧ s.inn j = some q := by
 unfold innAt at h
 split at h
 ·rename_i s hs
  exact ⟨s, hs, h⟩
 ·cases h

theorem inn_own (hW : WRep cx β ob w) {ok : Bool -> Nat -> Prop} {i j : Nat} {s q : Sq} {v : Value} (ho : ob[i]? = some (.nst s)) (hq : s.inn j = some q) (hr : RepV w ok β (.inn i j) v) : OwnEl w q v ∧ q.t.flat = true := by
 cases hr with
 |inn _ _ _ y vs hb hj =>
  obtain ⟨y', vs', he, _, _, _, hin, _⟩ := hW.obj i _ _ ho hb
  have he := List.cons.inj (by simpa using he : y :: vs = y' :: vs')
  obtain ⟨rfl, rfl⟩ := he
  obtain ⟨q', h1, h2, h3⟩ := hin j v hj
  rw [hq] at h1
  obtain rfl := Option.some.inj h1
  exact ⟨h3, h2⟩

theorem seenN_nst {i : Nat} {s : Sq} (h : seenN ob (.nst i) = some s) : ob[i]? = some (.nst s) ∨ ob[i]? = some (.frn s) ∨ ob[i]? = some (.fst s 0) := by
 have h' : (match ob[i]? with | some (.nst s) => some s | some (.frn s) => some s | some (.fst s 0) => some s | _ => none) = some s := h
 split at h'
 ·rename_i s' ho
  obtain rfl := Option.some.inj h'
  exact .inl ho
 ·rename_i s' ho
  obtain rfl := Option.some.inj h'
  exact .inr (.inl ho)
 ·rename_i s' ho
  obtain rfl := Option.some.inj h'
  exact .inr (.inr ho)
 ·cases h'

theorem nst_slice (hW : WRep cx β ob w) {ok0 : Bool -> Nat -> Prop} {i : Nat} {s : Sq} {v : Value} (h : seenN ob (.nst i) = some s) (hr : RepV w ok0 β (.nst i) v) :
  ∃ x A c, β[i]? = some x ∧ v = .slice A s.xs.length c ∧ s.xs.length ≤ c ∧ (∀ (ok : Nat -> Prop), (∀ b, okB cx β ob s.fl b -> b < w.heap.size -> ok b) -> (∀ b, blk x b -> ok b) -> RowR w ok s.t s.xs A) := by
 cases hr with
 |nst _ _ vs hb =>
  rcases seenN_nst h with ho | ho | ho
  ·have hO := hW.obj i _ _ ho hb
   obtain ⟨A, c, h1, h2, _⟩ := nest_reads (ok' := fun _ _ => True) (fl := s.fl) hO fun _ _ => trivial
   refine ⟨_, A, c, hb, h1, h2, fun ok _ hk => ?_⟩
   obtain ⟨A', c', h3, _, h4⟩ := nest_reads (ok' := fun _ => ok) (fl := s.fl) hO hk
   rw [h1] at h3
   obtain ⟨rfl, _, rfl⟩ := Value.slice.inj h3
   exact h4
  ·obtain ⟨y, vs', A, c, he, h1, h2, h3⟩ := hW.obj i _ _ ho hb
   have he := List.cons.inj (by simpa using he : v :: vs = y :: vs')
   obtain ⟨rfl, rfl⟩ := he
   exact ⟨_, A, c, hb, h1, h2, fun ok hk _ => h3.mono fun b hb hlt => ⟨hk b hb hlt, rfl⟩⟩
  ·have hO := hW.obj i _ _ ho hb
   obtain ⟨A, c, h1, h2, _⟩ := fst_reads (ok' := fun _ _ => True) (fl := s.fl) hO fun _ _ => trivial
   refine ⟨_, A, c, hb, h1, h2, fun ok _ hk => ?_⟩
   obtain ⟨A', c', h3, _, h4⟩ := fst_reads (ok' := fun _ => ok) (fl := s.fl) hO hk
   rw [h1] at h3
   obtain ⟨rfl, _, rfl⟩ := Value.slice.inj h3
   exact h4

theorem one_cell (hW : WRep cx β ob w) {ok : Bool -> Nat -> Prop} {x : AV} {v : Value} (h : one ob x = true) (hr : RepV w ok β x v) : v.oneCell' = true := by
 cases hr with
 |un => simp [one] at h
 |v x => exact h
 |agg => simp [one] at h
 |tup => simp [one] at h
 |rd => rfl
 |own i x hx =>
  simp only [one] at h
  cases hs : seen ob (.own i) with
  |none => rw [hs] at h; cases h
  |some s =>
   obtain ⟨A, c, rfl, _⟩ := own_slice hW hs hx
   rfl
 |view => rfl
 |ptr => rfl
 |pel => rfl
 |poe => rfl
 |clo => rfl
 |bnd => rfl
 |pbk => rfl
 |ifc => rfl
 |nst i _ vs hb =>
  simp only [one] at h
  cases hs : seenN ob (.nst i) with
  |none => rw [hs] at h; cases h
  |some s =>
   obtain ⟨_, A, c, _, rfl, _⟩ := nst_slice (ok0 := ok) hW hs (.nst i v vs hb)
   rfl
 |inn i j _ y vs hb hj =>
  simp only [one] at h
  cases hs : innAt ob i j with
  |none => rw [hs] at h; cases h
  |some q =>
   obtain ⟨s, h1, h2⟩ := innAt_some hs
   obtain ⟨⟨cells, hown, _⟩, _⟩ := inn_own (ok := ok) hW h1 h2 (.inn i j v y vs hb hj)
   rcases hown.2 with ⟨rfl, _⟩ | ⟨g, cap, cur, rfl, _⟩ <;> rfl
 |pns => rfl
 |pin => rfl
 |pfs => rfl
 |fin => rfl
 |cel _ h => exact h
 |grn => simp [one] at h

theorem cells_one {v : Value} (h : v.oneCell' = true) : v.cells = #[v] := by
 cases v <;> first | rfl | (simp [Value.oneCell'] at h)

theorem RepL.all_one (hW : WRep cx β ob w) {ok : Bool -> Nat -> Prop} {l : List AV} {vs : List Value} (h : RepL w ok β l vs) (h1 : l.all (one ob) = true) : ∀ u ∈ vs, u.oneCell' = true := by
 intro u hu
 obtain ⟨i, hi⟩ := List.getElem?_of_mem hu
 have hlt : i < l.length := by rw [h.1]; exact get_lt hi
 exact one_cell hW (List.all_eq_true.1 h1 _ (List.getElem_mem hlt)) (h.2 i _ u (List.getElem?_eq_getElem hlt) hi)

theorem RepL.consts (w : World) (ok : Bool -> Nat -> Prop) (β : List Value) (vs : List Value) : RepL w ok β (vs.map .v) vs :=
 ⟨by simp, fun i x y hx hy => by
  rw [List.getElem?_map, hy] at hx
  simp at hx
  subst hx
  exact .v y⟩

theorem cells_rep (hW : WRep cx β ob w) {ok : Bool -> Nat -> Prop} {x : AV} {v : Value} {cs : List AV} (h : cellsO ob x = some cs) (hr : RepV w ok β x v) :
  RepL w ok β cs v.cells.toList ∧ ∀ u ∈ v.cells.toList, u.oneCell' = true := by
 unfold cellsO at h
 split at h
 ·rename_i l
  split at h
  ·rename_i ha
   obtain rfl := Option.some.inj h
   cases hr with
   |agg l vs hl hc => exact ⟨⟨by simpa [Value.cells] using hl, by simpa [Value.cells] using hc⟩, by simpa [Value.cells] using RepL.all_one hW ⟨hl, hc⟩ ha⟩
  ·cases h
 ·rename_i vs
  split at h
  ·rename_i ha
   obtain rfl := Option.some.inj h
   have := rep_v hr
   subst this
   exact ⟨RepL.consts _ _ _ _, fun u hu => List.all_eq_true.1 ha u (by simpa [Value.cells] using hu)⟩
  ·cases h
 ·split at h
  ·rename_i h1
   obtain rfl := Option.some.inj h
   have h2 := one_cell hW h1 hr
   rw [cells_one h2]
   refine ⟨⟨rfl, fun i x y hx hy => ?_⟩, by simpa using h2⟩
   have hi : i = 0 := by
    have := get_lt hx
    simp at this
    exact this
   subst hi
   simp at hx hy
   subst hx hy
   exact hr
  ·cases h

theorem promL_good : ∀ (ts : List (Option TypeId)) (cs : List AV) (vs : List Value) (β : List Value) (σ : St), WRep cx β σ.ob w -> ARep w (okB cx β σ.ob) β σ.fr a -> RepL w (okB cx β σ.ob) β cs vs →
  ∃ β', WRep cx β' (promL P ts cs σ).2.ob w ∧ ARep w (okB cx β' (promL P ts cs σ).2.ob) β' (promL P ts cs σ).2.fr a ∧ RepL w (okB cx β' (promL P ts cs σ).2.ob) β' (promL P ts cs σ).1 vs ∧
   Ext 0 β σ.ob w β' (promL P ts cs σ).2.ob ∧ (∀ fl b, okB cx β σ.ob fl b -> b < w.heap.size -> okB cx β' (promL P ts cs σ).2.ob fl b) ∧
   (∀ (i : Nat) (o : O), σ.ob[i]? = some o -> (promL P ts cs σ).2.ob[i]? = some o) ∧ (promL P ts cs σ).2.fr = σ.fr
 |[], cs, vs, β, σ, hW, hA, hR => by
  have e : promL P [] cs σ = (cs, σ) := by cases cs <;> rfl
  rw [e]
  exact ⟨β, hW, hA, hR, .refl _ _ _ _, fun _ _ h _ => h, fun _ _ h => h, rfl⟩
 |t :: ts, [], vs, β, σ, hW, hA, hR => by
  have e : promL P (t :: ts) [] σ = ([], σ) := by cases t <;> rfl
  rw [e]
  exact ⟨β, hW, hA, hR, .refl _ _ _ _, fun _ _ h _ => h, fun _ _ h => h, rfl⟩
 |none :: ts, c :: cs, [], β, σ, hW, hA, hR => by simp [RepL] at hR
 |some t :: ts, c :: cs, [], β, σ, hW, hA, hR => by simp [RepL] at hR
 |none :: ts, c :: cs, v :: vs, β, σ, hW, hA, hR => by
  have hR' : RepL w (okB cx β σ.ob) β cs vs := ⟨by simpa using hR.1, fun i x y hx hy => hR.2 (i + 1) x y (by simpa using hx) (by simpa using hy)⟩
  obtain ⟨β', h1, h2, h3, h4, h5, h6, h7⟩ := promL_good ts cs vs β σ hW hA hR'
  refine ⟨β', h1, h2, ⟨by simp [promL, h3.1], fun i x y hx hy => ?_⟩, h4, h5, h6, h7⟩
  cases i with
  |zero =>
   simp [promL] at hx hy
   subst hx hy
   exact (hR.2 0 _ _ rfl rfl).mono (fun fl b hb hlt => ⟨h5 fl b hb hlt, rfl⟩) h4.ext
  |succ i => exact h3.2 i x y (by simpa [promL] using hx) (by simpa using hy)
 |some t :: ts, c :: cs, v :: vs, β, σ, hW, hA, hR => by
  have hR' : RepL w (okB cx β σ.ob) β cs vs := ⟨by simpa using hR.1, fun i x y hx hy => hR.2 (i + 1) x y (by simpa using hx) (by simpa using hy)⟩
  obtain ⟨β1, ⟨g1, g2, g3⟩, g4, g5, g6, g7⟩ := prom_good (P := P) (t := t) (x := c) (v := v) (σ := σ) (a := a) ⟨hW, hA, hR.2 0 _ _ rfl rfl⟩
  have hR1 : RepL w (okB cx β1 (σ.prom P t c).2.ob) β1 cs vs := hR'.mono (fun fl b hb hlt => ⟨g5 fl b hb hlt, rfl⟩) g4.ext
  obtain ⟨β', h1, h2, h3, h4, h5, h6, h7⟩ := promL_good ts cs vs β1 _ g1 g2 hR1
  refine ⟨β', h1, h2, ⟨by simp [promL, h3.1], fun i x y hx hy => ?_⟩, g4.trans h4, fun fl b hb hlt => h5 fl b (g5 fl b hb hlt) hlt, fun i o h => h6 i o (g6 i o h), h7.trans g7⟩
  cases i with
  |zero =>
   simp [promL] at hx hy
   subst hx hy
   exact g3.mono (fun fl b hb hlt => ⟨h5 fl b hb hlt, rfl⟩) h4.ext
  |succ i => exact h3.2 i x y (by simpa [promL] using hx) (by simpa using hy)

end Go.Ev
