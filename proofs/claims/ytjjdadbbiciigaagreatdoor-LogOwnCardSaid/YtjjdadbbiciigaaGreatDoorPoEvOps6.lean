/- Each operation of the abstract machine is one of the machine's: makes, literals, length, append. -/
import Derived.Test.YtjjdadbbiciigaaGreatDoorPoEvOps5
import Derived.Lib.ConvBytes
import Derived.Laws.BytesString
import Derived.Laws.Cells
namespace Go.Ev
set_option linter.unusedVariables false
set_option linter.unusedSimpArgs false
set_option linter.unusedSectionVars false
variable [tG : TabG]

variable {P : Program} {R : Type} {cx : Cx} {β β' : List Value} {ob ob' : List O} {w w' : World} {σ σ' : St} {a a' : Act}
variable {o : Oper} {K : AV -> St -> Option R} {r : R} {Q : Exit -> Act -> World -> Prop} {Γ : FuncId -> Option Sum}

theorem zero_cel {ok : Nat -> Prop} : ∀ (t : Ty) (zs : List Value), zeroOk t zs = true -> Cel w ok t t.dflt zs := by
 intro t
 induction t with
 |int k =>
  intro zs h
  match zs, h with
  |[.int k' n], h =>
   simp [zeroOk] at h
   rw [h.1, h.2]
   rfl
 |bool =>
  intro zs h
  match zs, h with
  |[.bool b], h =>
   simp [zeroOk] at h
   rw [h]
   rfl
 |str =>
  intro zs h
  match zs, h with
  |[.string s], h =>
   simp [zeroOk] at h
   have e : s = ByteArray.empty := by
    exact h
   rw [e]
   rfl
 |sl e t ih =>
  intro zs h
  match zs, h with
  |[.slice none 0 0], h => exact ⟨none, 0, rfl, Nat.le_refl _, fun h0 => absurd h0 (Nat.lt_irrefl 0)⟩
 |pr a b iha ihb =>
  intro zs h
  simp only [zeroOk, Bool.and_eq_true] at h
  exact ⟨zs.take a.sz, zs.drop a.sz, (List.take_append_drop _ _).symm, iha _ h.1, ihb _ h.2⟩

theorem foldl_set (off : Nat) : ∀ (l : List Value) (k : Nat) (cs : Array Value), off + k + l.length ≤ cs.size →
  (l.zipIdx k).foldl (fun cs p => cs.setIfInBounds (off + p.2) p.1) cs = (cs.toList.take (off + k) ++ l ++ cs.toList.drop (off + k + l.length)).toArray
 |[], k, cs, h => by simp
 |v :: l, k, cs, h => by
  simp only [List.zipIdx_cons, List.foldl_cons]
  simp only [List.length_cons] at h
  rw [foldl_set off l (k + 1) _ (by simp; omega)]
  congr 1
  apply List.ext_getElem?
  intro i
  rw [show off + (k + 1) = off + k + 1 from by omega]
  rw [get_splice _ _ _ _ (by simp; omega), get_splice _ _ _ _ (by simp; omega)]
  simp only [Array.toList_setIfInBounds, List.length_cons]
  by_cases h1 : i < off + k
  ·rw [if_pos (by omega), if_pos h1, List.getElem?_set]
   rw [if_neg (by omega)]
  ·by_cases h2 : i = off + k
   ·subst h2
    rw [if_pos (by omega), if_neg (by omega), if_pos (by omega), List.getElem?_set]
    rw [if_pos rfl, if_pos (by simp; omega)]
    simp
   ·rw [if_neg (by omega), if_neg h1]
    by_cases h3 : i < off + k + 1 + l.length
    ·rw [if_pos h3, if_pos (by omega)]
     rw [show i - (off + k) = i - (off + k + 1) + 1 from by omega]
     simp
    ·rw [if_neg h3, if_neg (by omega), List.getElem?_set]
     rw [if_neg (by omega)]

def RepP (w : World) (ok : Bool -> Nat -> Prop) (β : List Value) (ps : List (Nat × List AV)) (qs : List (Nat × Value)) : Prop :=
 ps.length = qs.length ∧ ∀ (i : Nat) (p : Nat × List AV) (q : Nat × Value), ps[i]? = some p -> qs[i]? = some q -> p.1 = q.1 ∧ RepL w ok β p.2 q.2.cells.toList

theorem RepP.tail {ok : Bool -> Nat -> Prop} {p : Nat × List AV} {q : Nat × Value} {ps : List (Nat × List AV)} {qs : List (Nat × Value)} (h : RepP w ok β (p :: ps) (q :: qs)) :
  (p.1 = q.1 ∧ RepL w ok β p.2 q.2.cells.toList) ∧ RepP w ok β ps qs :=
 ⟨h.2 0 p q rfl rfl, by simpa using h.1, fun i x y hx hy => h.2 (i + 1) x y (by simpa using hx) (by simpa using hy)⟩

theorem fill_rep {ok : Bool -> Nat -> Prop} {place : Nat -> Option (Nat × Nat)} : ∀ (ps : List (Nat × List AV)) (qs : List (Nat × Value)) (cs cs' : List AV) (vs : List Value), RepP w ok β ps qs -> RepL w ok β cs vs →
  fillP place ps cs = some cs' -> ∃ vs', Instr.fill place vs.toArray qs = some vs'.toArray ∧ RepL w ok β cs' vs'
 |[], [], cs, cs', vs, _, hr, h => by
  simp only [fillP] at h
  obtain rfl := Option.some.inj h
  exact ⟨vs, rfl, hr⟩
 |[], _ :: _, _, _, _, hp, _, _ => by simp [RepP] at hp
 |_ :: _, [], _, _, _, hp, _, _ => by simp [RepP] at hp
 |p :: ps, q :: qs, cs, cs', vs, hp, hr, h => by
  obtain ⟨⟨h1, h2⟩, h3⟩ := hp.tail
  simp only [fillP] at h
  split at h
  ·rename_i z hz
   split at h
   ·rename_i hc
    have hl : q.2.cells.toList.length = z.2 := by rw [← h2.1]; exact hc.1
    have hfit : z.1 + q.2.cells.toList.length ≤ vs.length := by rw [← hr.1, hl]; exact hc.2
    have hr' := hr.splice h2 z.1 (by rw [hc.1]; exact hc.2)
    obtain ⟨vs', h4, h5⟩ := fill_rep ps qs _ _ _ h3 hr' h
    refine ⟨vs', ?_, h5⟩
    obtain ⟨qi, qv⟩ := q
    simp only at h1 h2 hl hfit h4
    obtain ⟨z1, z2⟩ := z
    simp only [Instr.fill, ← h1, hz]
    have hsz : qv.cells.size = z2 := by simpa using hl
    rw [if_neg (by
     simp only [hsz, ne_eq, not_true_eq_false, decide_false, Bool.false_or, decide_eq_true_eq, List.size_toArray]
     have : z1 + qv.cells.toList.length ≤ vs.length := hfit
     rw [hl] at this
     omega)]
    have hf := foldl_set z1 qv.cells.toList 0 vs.toArray (by simpa using hfit)
    rw [← h4]
    congr 1
    rw [← Array.foldl_toList, Array.toList_zipIdx]
    simpa using hf
   ·cases h
  ·cases h

theorem litParts_rep (hW : WRep cx β ob w) {ok : Bool -> Nat -> Prop} : ∀ (ps : List (Nat × AV)) (qs : List (Nat × Value)) (l : List (Nat × List AV)), litParts ob ps = some l -> ps.length = qs.length →
  (∀ (i : Nat) (p : Nat × AV) (q : Nat × Value), ps[i]? = some p -> qs[i]? = some q -> p.1 = q.1 ∧ RepV w ok β p.2 q.2) -> RepP w ok β l qs
 |[], [], l, h, _, _ => by
  simp only [litParts] at h
  obtain rfl := Option.some.inj h
  exact ⟨rfl, fun i p q hp => by simp at hp⟩
 |[], _ :: _, _, _, hl, _ => by simp at hl
 |_ :: _, [], _, _, hl, _ => by simp at hl
 |(i, x) :: ps, q :: qs, l, h, hl, hr => by
  simp only [litParts] at h
  split at h
  ·rename_i cs l' hc hl'
   obtain rfl := Option.some.inj h
   have h0 := hr 0 (i, x) q rfl rfl
   have ih := litParts_rep hW ps qs l' hl' (by simpa using hl) fun j p q' hp hq => hr (j + 1) p q' (by simpa using hp) (by simpa using hq)
   refine ⟨by simp [ih.1], fun j p q' hp hq => ?_⟩
   cases j with
   |zero =>
    simp at hp hq
    subst hp hq
    exact ⟨h0.1, (cells_rep hW hc h0.2).1⟩
   |succ j => exact ih.2 j p q' (by simpa using hp) (by simpa using hq)
  ·cases h

theorem parts_rep (g : Good cx β σ a w) (parts : Array (Nat × Operand)) : ∀ (i : Nat) (p : Nat × AV) (q : Nat × Value), (parts.toList.map fun p => (p.1, σ.ev p.2))[i]? = some p →
  (parts.map fun (i, x) => (i, a.eval x)).toList[i]? = some q -> p.1 = q.1 ∧ RepV w (okB cx β σ.ob) β p.2 q.2 := by
 intro i p q hp hq
 rw [Array.toList_map, List.getElem?_map] at hq
 rw [List.getElem?_map] at hp
 cases hc : parts.toList[i]? with
 |none => rw [hc] at hp; cases hp
 |some z =>
  rw [hc] at hp hq
  simp at hp hq
  subst hp hq
  exact ⟨rfl, g.ev z.2⟩

theorem pu_build {t : TypeId} {parts : Array (Nat × Operand)} (ho : o.op = .build t parts) (g : Good cx β σ a w) (h : evOp P Γ o σ K = some r) : Pu P cx K r o β σ a w := by
 simp only [evOp, ho] at h
 split at h
 ·rename_i ps hps
  split at h
  ·rename_i cs hcs
   have hp := litParts_rep g.W _ _ _ hps (by simp) (parts_rep g parts)
   have : ∃ vs, P.built t (parts.map fun (i, x) => (i, a.eval x)).toList = some vs.toArray ∧ RepL w (okB cx β σ.ob) β cs vs := by
    unfold builtA at hcs
    unfold Program.built
    split at hcs
    ·rename_i it _ e hit hu
     split at hcs
     ·rename_i z ie hz hie
      obtain ⟨vs, h1, h2⟩ := fill_rep _ _ _ _ z.cells.toList hp (RepL.consts _ _ _ _) hcs
      refine ⟨vs, ?_, h2⟩
      simp only [hit, hu, hz, hie]
      simpa using h1
     ·cases hcs
    ·rename_i it fs hit hu
     split at hcs
     ·rename_i z places hz hpl
      obtain ⟨vs, h1, h2⟩ := fill_rep _ _ _ _ z.cells.toList hp (RepL.consts _ _ _ _) hcs
      refine ⟨vs, ?_, h2⟩
      simp only [hit, hu, hz, hpl]
      simpa using h1
     ·cases hcs
    ·cases hcs
   obtain ⟨vs, hb, hr⟩ := this
   exact pu_mk (v := .agg vs.toArray) (fun w' => by
    have hrun := run_build w' t _ _ hb
    simp only [execOp, ho, Sem.run_bind, hrun, Result.andThen_ok, Sem.run_pure]) (And.intro h (.agg _ _ hr.1 hr.2))
  ·cases h
 ·cases h

theorem wp_build' {t : TypeId} {parts : Array (Nat × Operand)} (ho : o.op = .build t parts) (g : Good cx β σ a w) (h : evOp P Γ o σ K = some r) (lvl : Nat) : Goal P cx K r o lvl β σ a w Q := (pu_build ho g h).goal g _


theorem freezeAt_live {i k : Nat} {o : O} (h : (freezeAt ob i)[k]? = some o) (hl : o.live = true) : ob[k]? = some o := by
 rcases freezeAt_cases ob i with e | ⟨s, h1, e⟩ | ⟨s, h1, e⟩ | ⟨s, h1, e⟩ <;> rw [e] at h
 ·exact h
 ·rcases mem_set h with ⟨_, h⟩ | ⟨_, rfl, _⟩
  ·exact h
  ·cases hl
 ·rcases mem_set h with ⟨_, h⟩ | ⟨_, rfl, _⟩
  ·exact h
  ·cases hl
 ·rcases mem_set h with ⟨_, h⟩ | ⟨_, rfl, _⟩
  ·exact h
  ·cases hl

theorem freezeL_live {k : Nat} {o : O} (hl : o.live = true) : ∀ (cs : List AV) (ob : List O), (freezeL ob cs)[k]? = some o -> ob[k]? = some o
 |[], _, h => h
 |c :: cs, ob, h => by
  have h' := freezeL_live hl cs _ h
  unfold freeze1 at h'
  split at h'
  ·exact freezeAt_live h' hl
  ·exact freezeAt_live h' hl
  ·exact freezeAt_live h' hl
  ·exact h'

theorem touch_freeze (hW : WRep cx β ob w) {cs : List AV} {l b : Nat} (h : touch l β (freezeL ob cs) b) : touch l β ob b := by
 match l, h with
 |0, h => exact h
 |1, h =>
  obtain ⟨i, s, x, h1, hs, h2, h3⟩ := h
  exact ⟨i, s, x, freezeL_live (O.live_of_rowish hs) cs ob h1, hs, h2, h3⟩
 |l + 2, h => exact (freezeL_good cs ob hW).2 b h

theorem newRow_res {s : Sq} {fr : List AV} {cur : Array Value} {n cap : Nat} (hW : WRep cx β ob w) (hA : ARep w (okB cx β ob) β fr a) (hn : n = s.xs.length) (hcap : n ≤ cap) (hcapm : cap ≤ maxLen) (hcur : cur.size = cap * s.t.sz)
  (hel : ∀ j y, s.xs[j]? = some y -> ∃ cs, Cel w (okB cx β ob s.fl) s.t y cs ∧ ∀ (k : Nat) (u : Value), cs[k]? = some u -> cur.toList[j * s.t.sz + k]? = some u) :
  Res cx (β ++ [.slice (some ⟨w.heap.size, 0, none⟩) n cap]) ⟨fr, ob ++ [.row s]⟩ (.own ob.length) a (.slice (some ⟨w.heap.size, 0, none⟩) n cap) (w.alloc (.cells cur s.e)) := by
 subst hn
 have hnew : (O.row s).live = true -> ∀ b, blk (.slice (some ⟨w.heap.size, 0, none⟩) s.xs.length cap) b -> w.heap.size ≤ b := fun _ b hb => by
  simp [blk, blk1] at hb
  omega
 have hm : ∀ fl b, okB cx β ob fl b -> b < w.heap.size -> okB cx (β ++ [.slice (some ⟨w.heap.size, 0, none⟩) s.xs.length cap]) (ob ++ [.row s]) fl b ∧ (w.alloc (.cells cur s.e)).heap[b]? = w.heap[b]? :=
  fun fl b hok hb => ⟨ok_snoc hW.len hnew hok hb, (Same.alloc w _).blk b hb⟩
 refine ⟨hW.new (Same.alloc w _) hnew ⟨cur.toList.take (s.xs.length * s.t.sz), ⟨?_, .inr ⟨_, cap, cur, rfl, Nat.zero_le _, .of (heap_alloc_new w _), hcap, hcapm, hcur, rfl⟩⟩, ?_, ?_⟩, hA.mono hm fun _ _ h => get_snoc h, .own _ _ ?_⟩
 ·rw [List.length_take, Array.length_toList, hcur]
  exact Nat.min_eq_left (Nat.mul_le_mul_right _ hcap)
 ·intro _ b hb
  simp [blk, blk1] at hb
  subst hb
  exact hW.hs
 ·intro j y hy
  obtain ⟨cs, h1, h2⟩ := hel j y hy
  refine ⟨cs, h1.mono (hm s.fl), fun k u hu => ?_⟩
  rw [List.getElem?_take, if_pos ?_]
  ·exact h2 k u hu
  ·have hj := get_lt hy
   have hk := get_lt hu
   rw [h1.len] at hk
   have : (j + 1) * s.t.sz ≤ s.xs.length * s.t.sz := Nat.mul_le_mul_right _ hj
   rw [Nat.succ_mul] at this
   omega
 ·rw [← hW.len]
  simp

theorem newRow_in {w' : World} {s : Sq} {fr : List AV} {cur : Array Value} {n cap : Nat} (hW : WRep cx β ob w) (hA : ARep w (okB cx β ob) β fr a) (hS : Same w w') (hB : Blk w' w.heap.size cur s.e) (hn : n = s.xs.length) (hcap : n ≤ cap) (hcapm : cap ≤ maxLen) (hcur : cur.size = cap * s.t.sz)
  (hel : ∀ j y, s.xs[j]? = some y -> ∃ cs, Cel w (okB cx β ob s.fl) s.t y cs ∧ ∀ (k : Nat) (u : Value), cs[k]? = some u -> cur.toList[j * s.t.sz + k]? = some u) :
  Res cx (β ++ [.slice (some ⟨w.heap.size, 0, none⟩) n cap]) ⟨fr, ob ++ [.row s]⟩ (.own ob.length) a (.slice (some ⟨w.heap.size, 0, none⟩) n cap) w' := by
 subst hn
 have hnew : (O.row s).live = true -> ∀ b, blk (.slice (some ⟨w.heap.size, 0, none⟩) s.xs.length cap) b -> w.heap.size ≤ b := fun _ b hb => by
  simp [blk, blk1] at hb
  omega
 have hm : ∀ fl b, okB cx β ob fl b -> b < w.heap.size -> okB cx (β ++ [.slice (some ⟨w.heap.size, 0, none⟩) s.xs.length cap]) (ob ++ [.row s]) fl b ∧ w'.heap[b]? = w.heap[b]? :=
  fun fl b hok hb => ⟨ok_snoc hW.len hnew hok hb, hS.blk b hb⟩
 refine ⟨hW.new hS hnew ⟨cur.toList.take (s.xs.length * s.t.sz), ⟨?_, .inr ⟨_, cap, cur, rfl, Nat.zero_le _, hB, hcap, hcapm, hcur, rfl⟩⟩, ?_, ?_⟩, hA.mono hm fun _ _ h => get_snoc h, .own _ _ ?_⟩
 ·rw [List.length_take, Array.length_toList, hcur]
  exact Nat.min_eq_left (Nat.mul_le_mul_right _ hcap)
 ·intro _ b hb
  simp [blk, blk1] at hb
  subst hb
  exact hW.hs
 ·intro j y hy
  obtain ⟨cs, h1, h2⟩ := hel j y hy
  refine ⟨cs, h1.mono (hm s.fl), fun k u hu => ?_⟩
  rw [List.getElem?_take, if_pos ?_]
  ·exact h2 k u hu
  ·have hj := get_lt hy
   have hk := get_lt hu
   rw [h1.len] at hk
   have : (j + 1) * s.t.sz ≤ s.xs.length * s.t.sz := Nat.mul_le_mul_right _ hj
   rw [Nat.succ_mul] at this
   omega
 ·rw [← hW.len]
  simp

theorem get_made {z : Array Value} {n i : Nat} (hi : i < n) (hz : 0 < z.size) : (madeCells z n).toList[i]? = z[i % z.size]? := by
 have h1 : i % z.size < z.size := Nat.mod_lt _ hz
 simp [madeCells, hi, h1]

theorem wp_makeSlice {t : TypeId} {l c : Operand} (ho : o.op = .makeSlice t l c) (g : Good cx β σ a w) (h : evOp P Γ o σ K = some r) (lvl : Nat) : Goal P cx K r o lvl β σ a w Q := by
 have hl := g.ev l
 have hc := g.ev c
 generalize hv : a.eval l = v at hl
 generalize hu : a.eval c = u at hc
 simp only [evOp, ho] at h
 split at h
 ·rename_i i n m hr hn hm
  obtain ⟨ie, z, hut, hie, hsz, hby, hz, hzo, hb, _⟩ := tyOf_row hr
  obtain ⟨k, hk⟩ := isInt_v hn
  obtain ⟨k', hk'⟩ := isInt_v hm
  rw [hk] at hl
  rw [hk'] at hc
  have hl := rep_v hl
  have hc := rep_v hc
  subst hl hc
  rcases br_some h with ⟨h1, h2⟩ | ⟨_, h2⟩
  ·obtain ⟨h0, hnm, hlim⟩ := of_decide_eq_true h1
   have hbz : (i.bytes : Int) * m ≤ 281474976710656 := by
    have hb' : (i.bytes : Int) ≤ 65536 := by omega
    calc (i.bytes : Int) * m ≤ 65536 * m := Int.mul_le_mul_of_nonneg_right hb' (by omega)
     _ ≤ 281474976710656 := by omega
   have hrun := run_make (P := P) w t i.e ie z hut hie hz k k' n m h0 hnm (by rw [hby]; exact hbz) (by omega)
   have hzc := zero_cel (w := w) (ok := okB cx β σ.ob true) i.t z.cells.toList hzo
   have hzl : z.cells.size = i.t.sz := by simpa using hzc.len
   rw [hsz] at hrun
   have hres := newRow_res (a := a) (s := ⟨true, i.e, i.t, List.replicate n.toNat i.t.dflt⟩) (n := n.toNat) (cap := m.toNat) (cur := madeCells z.cells (m.toNat * i.t.sz)) g.W g.A (by simp) (by omega) (by unfold maxLen; omega) (size_madeCells _ _) (by
    intro j y hy
    have hj : j < n.toNat := by have := get_lt hy; simpa using this
    have hyd : y = i.t.dflt := by
     have hy' : (List.replicate n.toNat i.t.dflt)[j]? = some y := hy
     rw [List.getElem?_replicate, if_pos hj] at hy'
     exact (Option.some.inj hy').symm
    refine ⟨z.cells.toList, hyd ▸ hzc, fun q x hx => ?_⟩
    show (madeCells z.cells (m.toNat * i.t.sz)).toList[j * i.t.sz + q]? = some x
    have hq : q < i.t.sz := by have := get_lt hx; rw [hzc.len] at this; exact this
    have hjm : (j + 1) * i.t.sz ≤ m.toNat * i.t.sz := Nat.mul_le_mul_right _ (by omega)
    rw [Nat.succ_mul] at hjm
    rw [get_made (by omega) (by rw [hzl]; exact i.t.sz_pos), hzl]
    rw [show (j * i.t.sz + q) % i.t.sz = q from by rw [Nat.mul_comm, Nat.mul_add_mod]; exact Nat.mod_eq_of_lt hq]
    simpa using hx)
   exact wp_value (by simp only [execOp, ho, hv, hu, Sem.run_bind, hrun, Result.andThen_ok, Sem.run_pure]) ⟨_, _, _, _, h2, rfl, hres, .of_same (Same.alloc w _) _, Ext.snoc g.W.len (fun _ b hb => by simp [blk, blk1] at hb; omega) _⟩
  ·cases h2
 ·cases h

theorem bts_get {q : ByteArray} {j : Nat} (h : j < (bts q).length) : (bts q)[j]? = some ((q.data.toList.getD j 0).toNat : Int) := by
 have hj : j < q.data.toList.length := by simpa [bts] using h
 unfold bts
 rw [List.getElem?_map, List.getElem?_eq_getElem hj, List.getD_eq_getElem?_getD, List.getElem?_eq_getElem hj]
 rfl

theorem seen_rep (hW : WRep cx β ob w) {x : AV} {v : Value} {s : Sq} (h : seen ob x = some s) (hr : RepV w (okB cx β ob) β x v) :
  ∃ A c, v = .slice A s.xs.length c ∧ s.xs.length ≤ c ∧ (∀ hpos : 0 < s.xs.length, ∃ ad, A = some ad ∧ ∀ j, j < s.xs.length -> ∃ cs y, s.xs[j]? = some y ∧ Cel w (okB cx β ob s.fl) s.t y cs ∧ ∀ (k : Nat) (u : Value), cs[k]? = some u -> w.cell? (ad.add (j * s.t.sz + k)) = some u) := by
 cases x <;> first | (simp [seen] at h; done) | skip
 rotate_left 3
 ·rename_i i
  have h' : (match ob[i]? with | some (.frn s) => some s | _ => none) = some s := h
  split at h'
  ·rename_i s' hob
   obtain rfl := Option.some.inj h'
   cases hr with
   |nst _ _ vs hb =>
    obtain ⟨y, vs', A, c, e, hy, hc, hrow⟩ := hW.obj i _ _ hob hb
    have e := List.cons.inj (by simpa using e : v :: vs = y :: vs')
    obtain ⟨rfl, rfl⟩ := e
    refine ⟨A, c, hy, hc, fun hpos => ?_⟩
    obtain ⟨ad, rfl, _, hel⟩ := hrow hpos
    exact ⟨ad, rfl, fun j hj => let ⟨cs, ⟨y, hy, h1⟩, h2⟩ := hel j hj; ⟨cs, y, hy, h1, h2⟩⟩
  ·cases h'
 ·rename_i i j
  obtain ⟨s0, hob, hq⟩ := innAt_some h
  obtain ⟨⟨cells, hown, hc⟩, hf⟩ := inn_own hW hob hq hr
  rcases hown.2 with ⟨rfl, hn⟩ | ⟨g, cap, cur, rfl, _, hg, hncap, _⟩
  ·exact ⟨none, 0, by rw [hn], by omega, fun hpos => by omega⟩
  ·refine ⟨_, cap, rfl, hncap, fun hpos => ⟨⟨g, 0, none⟩, rfl, fun j hj => ?_⟩⟩
   obtain ⟨cs, h1, h2⟩ := hc j s.xs[j] (List.getElem?_eq_getElem hj)
   exact ⟨cs, _, List.getElem?_eq_getElem hj, h1.of_flat hf, fun k u hu => hown.cells rfl _ u (h2 k u hu)⟩
 ·rename_i s'
  obtain rfl := Option.some.inj h
  cases hr with
  |rd _ A c hc hrow =>
   refine ⟨A, c, rfl, hc, fun hpos => ?_⟩
   obtain ⟨ad, rfl, _, hel⟩ := hrow hpos
   exact ⟨ad, rfl, fun j hj => let ⟨cs, ⟨y, hy, h1⟩, h2⟩ := hel j hj; ⟨cs, y, hy, h1, h2⟩⟩
 ·rename_i i
  cases hr with
  |own _ _ hb =>
   rcases seen_own h with hob | hob
   ·obtain ⟨cells, hown, _, hc⟩ := hW.obj i _ _ hob hb
    rcases hown.2 with ⟨rfl, hn⟩ | ⟨g, cap, cur, rfl, _, hg, hncap, _⟩
    ·exact ⟨none, 0, by rw [hn], by omega, fun hpos => by omega⟩
    ·refine ⟨_, cap, rfl, hncap, fun hpos => ⟨⟨g, 0, none⟩, rfl, fun j hj => ?_⟩⟩
     obtain ⟨cs, h1, h2⟩ := hc j s.xs[j] (List.getElem?_eq_getElem hj)
     exact ⟨cs, _, List.getElem?_eq_getElem hj, h1, fun k u hu => hown.cells rfl _ u (h2 k u hu)⟩
   ·obtain ⟨A, c, rfl, hc, hrow⟩ := hW.obj i _ _ hob hb
    refine ⟨A, c, rfl, hc, fun hpos => ?_⟩
    obtain ⟨ad, rfl, _, hel⟩ := hrow hpos
    exact ⟨ad, rfl, fun j hj => let ⟨cs, ⟨y, hy, h1⟩, h2⟩ := hel j hj; ⟨cs, y, hy, h1, h2⟩⟩
 ·rename_i i z lo n
  obtain ⟨q, hq, hz, rfl⟩ := seen_view h
  cases hr with
  |view _ _ _ _ A0 L c0 A hb hn hL hA =>
   have main : ∃ A' c', Value.slice A0 L c0 = .slice A' q.xs.length c' ∧ q.xs.length ≤ c' ∧ (∀ hpos : 0 < q.xs.length, ∃ ad, A' = some ad ∧ ∀ j, j < q.xs.length -> ∃ cs y, q.xs[j]? = some y ∧ Cel w (okB cx β ob q.fl) q.t y cs ∧ ∀ (k : Nat) (u : Value), cs[k]? = some u -> w.cell? (ad.add (j * q.t.sz + k)) = some u) := by
    rcases seen_own hq with hob | hob
    ·obtain ⟨cells, hown, _, hc⟩ := hW.obj i _ _ hob hb
     rcases hown.2 with ⟨he, hn0⟩ | ⟨g, cap, cur, he, _, hg, hncap, _⟩
     ·exact ⟨none, 0, by rw [he, hn0], by omega, fun hpos => by omega⟩
     ·refine ⟨_, cap, he, hncap, fun hpos => ⟨⟨g, 0, none⟩, rfl, fun j hj => ?_⟩⟩
      obtain ⟨cs, h1, h2⟩ := hc j q.xs[j] (List.getElem?_eq_getElem hj)
      rw [he] at hown
      exact ⟨cs, _, List.getElem?_eq_getElem hj, h1, fun k u hu => hown.cells rfl _ u (h2 k u hu)⟩
    ·obtain ⟨A', c, he, hc, hrow⟩ := hW.obj i _ _ hob hb
     refine ⟨A', c, he, hc, fun hpos => ?_⟩
     obtain ⟨ad, rfl, _, hel⟩ := hrow hpos
     exact ⟨ad, rfl, fun j hj => let ⟨cs, ⟨y, hy, h1⟩, h2⟩ := hel j hj; ⟨cs, y, hy, h1, h2⟩⟩
   obtain ⟨A', c', he, hc', hel⟩ := main
   obtain ⟨rfl, rfl, rfl⟩ := Value.slice.inj he
   have hl := sub_len hn
   refine ⟨A, c0 - lo, by rw [hl], by rw [hl]; omega, fun hpos => ?_⟩
   rw [hl] at hpos
   have hq0 : 0 < q.xs.length := by omega
   obtain ⟨ad, hA0, hel2⟩ := hel hq0
   subst hA0
   rcases hA with rfl | ⟨e1, e2⟩
   ·refine ⟨ad.add (lo * z), rfl, fun j hj => ?_⟩
    rw [hl] at hj
    obtain ⟨cs, y, h1, h2, h3⟩ := hel2 (lo + j) (by omega)
    refine ⟨cs, y, ?_, h2, fun k u hu => ?_⟩
    ·show ((q.xs.drop lo).take n)[j]? = some y
     rw [List.getElem?_take, if_pos hj, List.getElem?_drop]
     exact h1
    ·rw [add_add, ← h3 k u hu, ← hz, Nat.add_mul]
     show w.cell? (ad.add (lo * q.t.sz + (j * q.t.sz + k))) = _
     congr 2
     omega
   ·omega


theorem all_cells {ok : Nat -> Prop} {t : Ty} {xs : List t.S} {ad : Addr} : ∀ n, n ≤ xs.length -> (∀ j, j < xs.length -> ∃ cs y, xs[j]? = some y ∧ Cel w ok t y cs ∧ ∀ (k : Nat) (u : Value), cs[k]? = some u -> w.cell? (ad.add (j * t.sz + k)) = some u) →
  ∃ news : List Value, news.length = n * t.sz ∧ (∀ (k : Nat) (u : Value), news[k]? = some u -> w.cell? (ad.add k) = some u) ∧ (∀ u ∈ news, u.oneCell' = true) ∧
   ∀ j y, j < n -> xs[j]? = some y -> ∃ cs, Cel w ok t y cs ∧ ∀ (k : Nat) (u : Value), cs[k]? = some u -> news[j * t.sz + k]? = some u
 |0, _, _ => ⟨[], by simp, fun k u hu => by simp at hu, fun u hu => by simp at hu, fun j y hj => by omega⟩
 |n + 1, hn, hel => by
  obtain ⟨news, h1, h2, h3, h4⟩ := all_cells n (by omega) hel
  obtain ⟨cs, y, hy, hc, hcell⟩ := hel n (by omega)
  refine ⟨news ++ cs, by rw [List.length_append, h1, hc.len, Nat.succ_mul], fun k u hu => ?_, fun u hu => ?_, fun j z hj hz => ?_⟩
  ·rw [List.getElem?_append, h1] at hu
   split at hu
   ·exact h2 k u hu
   ·rename_i hk
    have := hcell _ u hu
    rw [show n * t.sz + (k - n * t.sz) = k from by omega] at this
    exact this
  ·rcases List.mem_append.1 hu with hu | hu
   ·exact h3 u hu
   ·exact hc.one u hu
  ·rcases Nat.lt_or_ge j n with hlt | hge
   ·obtain ⟨cs', h5, h6⟩ := h4 j z hlt hz
    refine ⟨cs', h5, fun k u hu => ?_⟩
    have := h6 k u hu
    rw [List.getElem?_append, if_pos (get_lt this)]
    exact this
   ·obtain rfl : j = n := by omega
    rw [hy] at hz
    obtain rfl := Option.some.inj hz
    refine ⟨cs, hc, fun k u hu => ?_⟩
    rw [List.getElem?_append, h1, if_neg (by omega)]
    rw [show j * t.sz + k - j * t.sz = k from by omega]
    exact hu



theorem bts_run {xs : List Int} {A : Option Addr} {c : Nat} {t d e : TypeId} {ok : Nat -> Prop} (hs : P.underlying t = some (.slice e)) (he : P.underlying e = some (.int .u8)) (hd : P.underlying d = some .string)
  (hel : ∀ hpos : 0 < xs.length, ∃ ad, A = some ad ∧ ∀ j, j < xs.length -> ∃ cs y, xs[j]? = some y ∧ Cel w ok (.int .u8) y cs ∧ ∀ (k : Nat) (u : Value), cs[k]? = some u -> w.cell? (ad.add (j * (Ty.int .u8).sz + k)) = some u) :
  (convert t d (.slice A xs.length c)).run P w = .ok (.string (ofBts xs)) w := by
 rw [run_convert_bytes_string w t d e A xs.length c hs he hd]
 cases xs with
 |nil =>
  cases A with
  |none => rfl
  |some a =>
   have := run_bytesToString (P := P) w a 0 c [] (by simpa using run_loadCells_list (P := P) a [] (w := w) (fun j v h => by simp at h))
   exact this
 |cons x xs =>
  obtain ⟨ad, rfl, hel2⟩ := hel (by simp)
  have hl := run_loadCells_list (P := P) (w := w) ad ((x :: xs).map (Value.int .u8)) fun j v hj => by
   have hj' : j < (x :: xs).length := by
    have := get_lt hj
    simpa using this
   obtain ⟨cs, y, h1, h2, h3⟩ := hel2 j hj'
   have h2 : cs = [.int .u8 y] := h2
   subst h2
   have := h3 0 _ rfl
   rw [show j * (Ty.int IntKind.u8).sz + 0 = j from by show j * 1 + 0 = j; omega] at this
   rw [this, ← hj, List.getElem?_map, h1]
   rfl
  rw [List.length_map] at hl
  exact run_bytesToString w ad _ c (x :: xs) hl

theorem u8_of {e : TypeId} (h : isU8 P e = true) : P.underlying e = some (.int .u8) := by
 unfold isU8 at h
 split at h
 ·assumption
 ·cases h

theorem as_some {s : Sq} {t : Ty} {xs : List t.S} (h : s.as t = some xs) : ∃ h' : s.t = t, xs = h' ▸ s.xs := by
 unfold Sq.as at h
 split at h
 ·rename_i h'
  exact ⟨h', (Option.some.inj h).symm⟩
 ·cases h

theorem wp_bts {t d : TypeId} {x : Operand} (ho : o.op = .convert t d x) (g : Good cx β σ a w) (h : evOp P Γ o σ K = some r) (lvl : Nat) (hs : ∃ e, P.underlying t = some (.slice e)) (hd : P.underlying d = some .string) (hn : ∀ b, σ.ev x ≠ .v (.string b)) (hi : ∀ k n, σ.ev x ≠ .v (.int k n)) : Goal P cx K r o lvl β σ a w Q := by
 obtain ⟨e, hs⟩ := hs
 have hx := g.ev x
 generalize hv : a.eval x = v at hx
 simp only [evOp, ho, hs, hd] at h
 split at h
 ·rename_i h8
  have hu := u8_of h8
  split at h
  ·rename_i hnil
   have hx2 := isNil_eq hnil
   rw [hx2] at hx
   have hx := rep_v hx
   subst hx
   exact (pu_mk (v := .string ByteArray.empty) (fun w => by simp [execOp, ho, hv, convert, run_underlying hs, run_underlying hd, run_underlying hu, Conv.bytesToString]) (And.intro h (.v _)) : Pu P cx K r o β σ a w).goal g _
  ·split at h
   ·rename_i q hq
    split at h
    ·rename_i xs hxs
     obtain ⟨A, c, rfl, hc, hel⟩ := seen_rep g.W hq hx
     obtain ⟨ht, hxe⟩ := as_some hxs
     obtain ⟨fl, e1, t1, ys⟩ := q
     dsimp only at ht
     subst ht
     dsimp only at hxe
     subst hxe
     have hrun := bts_run (c := c) hs hu hd hel
     exact wp_value (by simp only [execOp, ho, hv, Sem.run_bind, hrun, Result.andThen_ok, Sem.run_pure]) ⟨_, _, σ, β, h, rfl, ⟨g.W, g.A, .v _⟩, .refl _, .refl _ _ _ _⟩
    ·cases h
   ·cases h
 ·cases h

theorem wp_convert {t d : TypeId} {x : Operand} (ho : o.op = .convert t d x) (g : Good cx β σ a w) (h : evOp P Γ o σ K = some r) (lvl : Nat) (hlv : (∃ i, σ.ev x = .own i) -> t = d -> 2 ≤ lvl) : Goal P cx K r o lvl β σ a w Q := by
 by_cases hno : ∃ i, σ.ev x = .own i
 ·obtain ⟨i, hi⟩ := hno
  have hx := g.ev x
  generalize hv : a.eval x = v at hx
  have h' := h
  simp only [evOp, ho] at h
  split at h
  ·rename_i he; rw [hi] at he; cases he
  ·rename_i he; rw [hi] at he; cases he
  ·rename_i he; rw [hi] at he; cases he
  ·rename_i he; rw [hi] at he; cases he
  ·rename_i e0 e ai hs hd he
   rw [hi] at he
   obtain rfl := AV.own.inj he
   split at h
   ·rename_i q hsd hu8 hob
    obtain rfl : t = d := by simpa using hsd
    have hlv := hlv ⟨i, hi⟩ rfl
    split at h
    ·rename_i hqe
     rcases br_some h with ⟨h1, h2⟩ | ⟨_, h2⟩
     ·have hpos := of_decide_eq_true h1
      have h2 : K (.own i) σ = some r := h2
      have hu : P.underlying e = some (.int .u8) := by
       unfold isU8 at hu8
       split at hu8
       ·assumption
       ·cases hu8
      rw [hi] at hx
      have hx' := hx
      cases hx with
      |own _ _ hb =>
       have hO := g.W.obj i _ _ hob hb
       obtain ⟨cells, hown, hf, hc⟩ := hO
       rcases hown.2 with ⟨_, h0⟩ | ⟨gg, cap, cur, rfl, hg0, hg, hcap, hcm, hcs, htake⟩
       ·omega
       ·rw [hqe] at hg
        obtain ⟨m1, m2, m3, m4, m5, m6, m7⟩ := hg.mark
        have hlive : LiveB β σ.ob gg := ⟨i, _, _, hob, rfl, hb, rfl⟩
        have hset : σ.ob.set i (.row q) = σ.ob := by
         apply List.ext_getElem?
         intro k
         rw [List.getElem?_set]
         split
         ·rename_i hk
          subst hk
          rw [if_pos (get_lt hob), hob]
         ·rfl
        have hm : ∀ fl b, okB cx β σ.ob fl b -> b < w.heap.size -> okB cx β σ.ob fl b ∧ (w.freeze ⟨gg, cur.size, none⟩ 1).heap[b]? = w.heap[b]? := fun fl b hok _ => ⟨hok, m3 b fun e => hok.1 (by subst e; exact hlive)⟩
        have hW' := g.W.write hob hb rfl m5 m6 m7 (Nat.le_of_eq m4.symm) (fun b _ hne => m3 b fun e => hne (by subst e; rfl)) (o' := .row q) rfl (by
         rw [hset]
         exact ⟨cells, ⟨hown.1, .inr ⟨gg, cap, cur, rfl, hg0, by rw [hqe]; exact m2, hcap, hcm, hcs, htake⟩⟩, hf, fun j y hy => let ⟨cs, h1, h2⟩ := hc j y hy; ⟨cs, h1.mono (hm q.fl), h2⟩⟩)
        rw [hset] at hW'
        have hrun := run_mark (P := P) (t := t) (n := q.xs.length) (c := cap) hg hd hu
        refine wp_value (v := .slice (some ⟨gg, 0, none⟩) q.xs.length cap) (by simp only [execOp, ho, hv, Sem.run_bind, hrun, Result.andThen_ok, Sem.run_pure]) ⟨_, _, σ, β, h2, rfl, ⟨hW', g.A.mono hm fun _ _ h => h, .own _ _ hb⟩, ⟨Nat.le_of_eq m4.symm, fun b _ ht => m3 b fun e => ht ?_⟩, .refl _ _ _ _⟩
        obtain ⟨l, rfl⟩ : ∃ m, lvl = m + 2 := ⟨lvl - 2, by omega⟩
        subst e
        exact hlive
     ·cases h2
    ·cases h
   ·cases h
  ·exact wp_bts ho g h' lvl ⟨_, by assumption⟩ (by assumption) (fun b e => by simp_all) (fun k n e => by simp_all)
  ·cases h
 have hno' : ∀ i, σ.ev x ≠ .own i := fun i e => hno ⟨i, e⟩
 by_cases hns : ∃ k n, σ.ev x = .v (.int k n)
 ·exact (pu_convert ho g hns h).goal g _
 ·have hx := g.ev x
  generalize hv : a.eval x = v at hx
  have h' := h
  simp only [evOp, ho] at h
  split at h
  ·rename_i s k k' n hs hd he
   exact absurd ⟨_, _, he⟩ hns
  ·rename_i kk k' n hs hd he
   exact absurd ⟨_, _, he⟩ hns
  ·rename_i s q hs hd he
   rw [he] at hx
   have hx := rep_v hx
   subst hx
   exact (pu_mk (v := .string q) (fun w => by cases s <;> simp [execOp, ho, hv, convert, run_underlying hs, run_underlying hd]) (And.intro h (.v _)) : Pu P cx K r o β σ a w).goal g _
  ·rename_i s e q hs hd he
   rw [he] at hx
   have hx := rep_v hx
   subst hx
   split at h
   ·rename_i h8
    have hu : P.underlying e = some (.int .u8) := by
     unfold isU8 at h8
     split at h8
     ·assumption
     ·cases h8
    have hrun := Go.Lib.run_convert_string_bytes (P := P) w t d e q hs hd hu
    have hsm : Same w (Go.Lib.bytesWorld w e q) := ⟨rfl, rfl, rfl, by rw [Go.Lib.bytesWorld_size]; omega, fun b hb => Go.Lib.bytesWorld_at_old w e q b hb⟩
    have hlen : (bts q).length = q.size := by unfold bts; rw [List.length_map, Array.length_toList]; rfl
    rcases br_some h with ⟨hq, h2⟩ | ⟨_, h2⟩
    ·have hq := of_decide_eq_true hq
     have hnew := Go.Lib.bytesWorld_at_new w e q
     have hsz : (Go.Lib.bytesCells w e q).size = grownCap w q.size 0 e := by
      have := grownCap_ge w q.size 0 e
      have hd : q.data.size = q.size := rfl
      simp only [Go.Lib.bytesCells, Array.size_append, Array.size_map, Array.size_replicate, hd]
      omega
     have hres := newRow_in (a := a) (s := ⟨true, e, .int .u8, bts q⟩) (n := q.size) (cap := grownCap w q.size 0 e) (cur := Go.Lib.bytesCells w e q) g.W g.A hsm ⟨_, hnew, .inr (Nat.le_refl _)⟩ hlen.symm (grownCap_ge _ _ _ _)
      (grownCap_le_maxLen w q.size 0 e (by unfold maxLen; omega)) (by rw [hsz]; show _ = _ * 1; omega) (by
       intro j y hy
       have hj : j < (bts q).length := get_lt hy
       have hy : (bts q)[j]? = some y := hy
       rw [bts_get hj] at hy
       obtain rfl := Option.some.inj hy
       refine ⟨[.int .u8 ((q.data.toList.getD j 0).toNat : Int)], rfl, fun k u hk => ?_⟩
       have hj' : j < q.size := by rw [← hlen]; exact hj
       cases k with
       |succ k => simp at hk
       |zero =>
        obtain rfl := Option.some.inj hk
        show (Go.Lib.bytesCells w e q).toList[j * 1 + 0]? = _
        rw [Nat.mul_one, Nat.add_zero]
        have hc := Go.Lib.bytesWorld_cell w e q j hj'
        simp only [World.cell?, hnew] at hc
        rw [Array.getElem?_toList]
        exact hc)
     exact wp_value (by simp only [execOp, ho, hv, Sem.run_bind, hrun, Result.andThen_ok, Sem.run_pure]) ⟨_, _, _, _, h2, rfl, hres, .of_same hsm _, Ext.snoc g.W.len (fun _ b hb => by simp [blk, blk1] at hb; omega) _⟩
    ·cases h2
   ·cases h
  ·rename_i he
   exact absurd he (hno' _)
  ·exact wp_bts ho g h' lvl ⟨_, by assumption⟩ (by assumption) (fun b e => by simp_all) (fun k n e => by simp_all)
  ·cases h

theorem chunk_rep (hW : WRep cx β ob w) (t : Ty) : ∀ (n : Nat) (cs : List AV) (vs : List Value) (fl : Bool) (ys : List t.S), chunk ob t n cs = some (fl, ys) -> RepL w (okB cx β ob) β cs vs -> vs.length = n * t.sz →
  ys.length = n ∧ ∀ j y, ys[j]? = some y -> ∃ us, Cel w (okB cx β ob fl) t y us ∧ ∀ (k : Nat) (u : Value), us[k]? = some u -> vs[j * t.sz + k]? = some u
 |0, cs, vs, fl, ys, h, hr, hl => by
  simp only [chunk] at h
  obtain ⟨rfl, rfl⟩ := Prod.mk.inj (Option.some.inj h)
  exact ⟨rfl, fun j y hy => by simp at hy⟩
 |n + 1, cs, vs, fl, ys, h, hr, hl => by
  simp only [chunk] at h
  split at h
  ·rename_i x r hx hrest
   obtain ⟨rfl, rfl⟩ := Prod.mk.inj (Option.some.inj h)
   rw [Nat.succ_mul] at hl
   obtain ⟨h1, h2⟩ := chunk_rep hW t n _ _ r.1 r.2 hrest (hr.drop t.sz) (by rw [List.length_drop, hl]; omega)
   refine ⟨by simp [h1], fun j y hy => ?_⟩
   cases j with
   |zero =>
    simp at hy
    subst hy
    refine ⟨_, (unre_rep hW t _ _ x.1 x.2 hx (hr.take t.sz)).weaken fun h => (Bool.and_eq_true_iff.1 h).1, fun k u hu => ?_⟩
    rw [List.getElem?_take] at hu
    split at hu
    ·simpa using hu
    ·cases hu
   |succ j =>
    obtain ⟨us, h3, h4⟩ := h2 j y (by simpa using hy)
    refine ⟨us, h3.weaken fun h => (Bool.and_eq_true_iff.1 h).2, fun k u hu => ?_⟩
    have := h4 k u hu
    rw [List.getElem?_drop] at this
    rw [← this]
    congr 1
    rw [Nat.succ_mul]
    omega
  ·cases h

theorem made_flat (z : Array Value) : ∀ n, (madeCells z (n * z.size)).toList = (List.replicate n z.toList).flatten := by
 intro n
 apply List.ext_getElem?
 intro i
 by_cases hi : i < n * z.size
 ·have hz : 0 < z.size := by
   rcases Nat.eq_zero_or_pos z.size with h | h
   ·rw [h] at hi
    omega
   ·exact h
  rw [get_made hi hz]
  clear hz
  induction n generalizing i with
  |zero => omega
  |succ n ih =>
   rw [List.replicate_succ, List.flatten_cons, List.getElem?_append, Array.length_toList]
   split
   ·rename_i hlt
    rw [Nat.mod_eq_of_lt hlt]
    simp
   ·rename_i hlt
    rw [Nat.succ_mul] at hi
    rw [← ih (i - z.size) (by omega)]
    congr 1
    rw [Nat.mod_eq_sub_mod (by omega)]
 ·rw [List.getElem?_eq_none (by simp [madeCells]; omega), List.getElem?_eq_none (by simp; omega)]

theorem RepL.flat {ok : Bool -> Nat -> Prop} (vs : List Value) (n : Nat) : RepL w ok β (List.replicate n (vs.map AV.v)).flatten (List.replicate n vs).flatten := by
 have e : (List.replicate n (vs.map AV.v)).flatten = (List.replicate n vs).flatten.map AV.v := by simp [List.map_flatten]
 rw [e]
 exact RepL.consts _ _ _ _

/-! ### Objects that are merged into a new one -/

theorem goneL_len : ∀ (is : List Nat) (ob : List O), (goneL ob is).length = ob.length
 |[], _ => rfl
 |i :: is, ob => by rw [goneL, goneL_len is]; simp

theorem goneL_get : ∀ (is : List Nat) (ob : List O) (k : Nat) (o : O), (goneL ob is)[k]? = some o -> o = .gone ∨ (ob[k]? = some o ∧ k ∉ is)
 |[], ob, k, o, h => .inr ⟨h, by simp⟩
 |i :: is, ob, k, o, h => by
  rcases goneL_get is _ k o h with h | ⟨h1, h2⟩
  ·exact .inl h
  ·rcases mem_set h1 with ⟨hne, h1⟩ | ⟨_, rfl, _⟩
   ·exact .inr ⟨h1, by simp [hne, h2]⟩
   ·exact .inl rfl

theorem WRep.merge (hW : WRep cx β ob w) {is : List Nat} {o : O} {x : Value} (hlo : o.rowish = true)
  (hblk : ∀ b, b < w.heap.size -> blk x b -> ∃ i ∈ is, ∃ o1 x1, ob[i]? = some o1 ∧ o1.rowish = true ∧ β[i]? = some x1 ∧ blk x1 b)
  (hos : w'.os = w.os) (htape : w'.tape = w.tape) (hout : w'.output = w.output) (hsize : w.heap.size ≤ w'.heap.size)
  (hheap : ∀ b, b < w.heap.size -> (∀ i ∈ is, ∀ o1 x1, ob[i]? = some o1 -> o1.live = true -> β[i]? = some x1 -> ¬ blk x1 b) -> w'.heap[b]? = w.heap[b]?)
  (hr : (∀ fl b, okB cx β ob fl b -> b < w.heap.size -> okB cx (β ++ [x]) (goneL ob is ++ [o]) fl b ∧ w'.heap[b]? = w.heap[b]?) -> RepO cx w' (okB cx (β ++ [x]) (goneL ob is ++ [o])) (β ++ [x]) o x) :
  WRep cx (β ++ [x]) (goneL ob is ++ [o]) w' ∧ (∀ fl b, okB cx β ob fl b -> b < w.heap.size -> okB cx (β ++ [x]) (goneL ob is ++ [o]) fl b ∧ w'.heap[b]? = w.heap[b]?) ∧ Ext 0 β ob w (β ++ [x]) (goneL ob is ++ [o]) := by
 have hlen : β.length = (goneL ob is).length := by rw [goneL_len]; exact hW.len
 have hlive : ∀ b, b < w.heap.size -> LiveB (β ++ [x]) (goneL ob is ++ [o]) b -> LiveB β ob b := fun b hb hl => by
  rcases live_snoc hlen hl with ⟨j, o1, x1, h1, h2, h3, h4⟩ | ⟨_, hx⟩
  ·rcases goneL_get is ob j o1 h1 with rfl | ⟨h1, _⟩
   ·cases h2
   ·exact ⟨j, o1, x1, h1, h2, h3, h4⟩
  ·obtain ⟨i, _, o1, x1, h1, h2, h3, h4⟩ := hblk b hb hx
   exact ⟨i, o1, x1, h1, O.live_of_rowish h2, h3, h4⟩
 have hm : ∀ fl b, okB cx β ob fl b -> b < w.heap.size -> okB cx (β ++ [x]) (goneL ob is ++ [o]) fl b ∧ w'.heap[b]? = w.heap[b]? := fun fl b hok hb =>
  ⟨okB_of hok (hlive b hb), hheap b hb fun i _ o1 x1 h1 h2 h3 h4 => hok.1 ⟨i, o1, x1, h1, h2, h3, h4⟩⟩
 have hβ : ∀ (j : Nat) (y : Value), β[j]? = some y -> (β ++ [x])[j]? = some y := fun _ _ h => get_snoc h
 have hown : ∀ b, blk x b -> cx.pb b ∨ cx.w0.heap.size ≤ b := fun b hb => by
  rcases Nat.lt_or_ge b w.heap.size with hlt | hge
  ·obtain ⟨i, _, o1, x1, h1, h2, h3, h4⟩ := hblk b hlt hb
   exact hW.own i o1 x1 b h1 (O.live_of_rowish h2) h3 h4
  ·exact .inr (Nat.le_trans hW.hs hge)
 have key : ∀ (j : Nat) (o1 : O) (x1 : Value) (b : Nat), (goneL ob is)[j]? = some o1 -> β[j]? = some x1 -> o1.live = true -> blk x1 b -> blk x b -> False := fun j o1 x1 b p1 q1 l1 b1 b2 => by
  rcases goneL_get is ob j o1 p1 with rfl | ⟨p1, hj⟩
  ·cases l1
  ·obtain ⟨i, hi, o2, x2, h1, h2, h3, h4⟩ := hblk b ((hW.obj j o1 x1 p1 q1).lt l1 b1) b2
   have := hW.sep j i o1 o2 x1 x2 b p1 h1 l1 (O.live_of_rowish h2) q1 h3 b1 h4
   subst this
   exact hj hi
 refine ⟨⟨Nat.le_trans hW.hs hsize, fun b hb hp => ?_, hos.trans hW.os, htape.trans hW.tape, hout.trans hW.out, by simp [goneL_len, hW.len], fun j y hy => hβ j y (hW.pre j y hy), ?_, ?_, ?_, hW.tab⟩, hm, fun _ _ h => get_snoc h, fun l _ b hb ht => ?_⟩
 ·rw [hheap b (Nat.lt_of_lt_of_le hb hW.hs) (fun i _ o1 x1 h1 h2 h3 h4 => ?_), hW.keep b hb hp]
  rcases hW.own i o1 x1 b h1 h2 h3 h4 with h | h
  ·exact hp h
  ·omega
 ·intro j o1 x1 h1 k1
  rcases both_snoc hlen h1 k1 with ⟨p1, q1⟩ | ⟨_, rfl, rfl⟩
  ·rcases goneL_get is ob j o1 p1 with rfl | ⟨p1, hj⟩
   ·trivial
   ·refine (hW.obj j o1 x1 p1 q1).mono hm hβ fun hl b hb => hheap b ((hW.obj j o1 x1 p1 q1).lt hl hb) fun i hi o2 x2 h1 h2 h3 h4 => ?_
    have := hW.sep j i o1 o2 x1 x2 b p1 h1 hl h2 q1 h3 hb h4
    subst this
    exact hj hi
  ·exact hr hm
 ·intro j k o1 o2 x1 x2 b h1 h2 l1 l2 k1 k2 b1 b2
  rcases both_snoc hlen h1 k1 with ⟨p1, q1⟩ | ⟨e1, rfl, rfl⟩ <;> rcases both_snoc hlen h2 k2 with ⟨p2, q2⟩ | ⟨e2, rfl, rfl⟩
  ·rcases goneL_get is ob j o1 p1 with rfl | ⟨p1, _⟩
   ·cases l1
   ·rcases goneL_get is ob k o2 p2 with rfl | ⟨p2, _⟩
    ·cases l2
    ·exact hW.sep j k o1 o2 x1 x2 b p1 p2 l1 l2 q1 q2 b1 b2
  ·exact (key j o1 x1 b p1 q1 l1 b1 b2).elim
  ·exact (key k o2 x2 b p2 q2 l2 b2 b1).elim
  ·omega
 ·intro j o1 x1 b h1 l1 k1 b1
  rcases both_snoc hlen h1 k1 with ⟨p1, q1⟩ | ⟨_, rfl, rfl⟩
  ·rcases goneL_get is ob j o1 p1 with rfl | ⟨p1, _⟩
   ·cases l1
   ·exact hW.own j o1 x1 b p1 l1 q1 b1
  ·exact hown b b1
 ·match l, ht with
  |0, ht => exact ht
  |1, ht =>
   obtain ⟨j, o1, x1, h1, hs, h2, h3⟩ := ht
   rcases both_snoc hlen h1 h2 with ⟨k1, k2⟩ | ⟨_, rfl, rfl⟩
   ·rcases goneL_get is ob j o1 k1 with rfl | ⟨k1, _⟩
    ·cases hs
    ·exact ⟨j, o1, x1, k1, hs, k2, h3⟩
   ·obtain ⟨i, _, o2, x2, p1, p2, p3, p4⟩ := hblk b hb h3
    exact ⟨i, o2, x2, p1, p2, p3, p4⟩
  |l + 2, ht => exact hlive b hb ht

theorem appTo_rep (hW : WRep cx β ob w) {ok : Bool -> Nat -> Prop} {x : AV} {v : Value} {i : Nat} {s' : Sq} (h : appTo ob x = some (i, s')) (hr : RepV w ok β x v) :
  ∃ (s : Sq) (xs : List s.t.S) (v0 : Value) (cells : List Value), s' = ⟨s.fl, s.e, s.t, xs⟩ ∧ ob[i]? = some (.row s) ∧ β[i]? = some v0 ∧ (∀ b, blk v b -> blk v0 b) ∧ ownsM w s.e s.t.sz v xs.length cells ∧
   ∀ j y, xs[j]? = some y -> ∃ cs, Cel w (okB cx β ob s.fl) s.t y cs ∧ ∀ (k : Nat) (u : Value), cs[k]? = some u -> cells[j * s.t.sz + k]? = some u := by
 unfold appTo at h
 split at h
 ·split at h
  ·rename_i i' _ s hob
   obtain ⟨rfl, rfl⟩ := Prod.mk.inj (Option.some.inj h)
   cases hr with
   |own _ _ hb =>
    obtain ⟨cells, hown, _, hc⟩ := hW.obj _ _ _ hob hb
    exact ⟨s, s.xs, v, cells, rfl, hob, hb, fun _ h => h, hown, hc⟩
  ·cases h
 ·split at h
  ·rename_i i' z lo n _ s hob
   split at h
   ·rename_i hz
    obtain ⟨hz, rfl⟩ := hz
    obtain ⟨rfl, rfl⟩ := Prod.mk.inj (Option.some.inj h)
    cases hr with
    |view _ _ _ _ A0 L c0 A hb hn hL hA =>
     have hA : A = A0 := by
      rcases hA with rfl | ⟨_, h⟩
      ·cases A0 <;> simp [Addr.add]
      ·omega
     subst hA
     obtain ⟨cells, hown, _, hc⟩ := hW.obj _ _ _ hob hb
     have hL' : L = s.xs.length := by
      rcases hown.2 with ⟨he, h0⟩ | ⟨g, cap, cur, he, _⟩
      ·obtain ⟨_, rfl, _⟩ := Value.slice.inj he
       exact h0.symm
      ·obtain ⟨_, h1, _⟩ := Value.slice.inj he
       exact h1
     subst hL'
     have hlen : (s.xs.take n).length = n := by rw [List.length_take]; omega
     refine ⟨s, s.xs.take n, _, cells.take (n * s.t.sz), rfl, hob, hb, fun b hb => by cases A <;> exact hb, ?_, fun j y hy => ?_⟩
     ·rw [hlen]
      refine ⟨by rw [List.length_take, hown.1]; exact Nat.min_eq_left (Nat.mul_le_mul_right _ (by omega)), ?_⟩
      rcases hown.2 with ⟨he, h0⟩ | ⟨g, cap, cur, he, hg0, hg, hcap, hm, hcur, htake⟩
      ·obtain ⟨rfl, _, rfl⟩ := Value.slice.inj he
       left
       have : n = 0 := by omega
       subst this
       exact ⟨rfl, rfl⟩
      ·obtain ⟨rfl, _, rfl⟩ := Value.slice.inj he
       refine .inr ⟨g, c0, cur, rfl, hg0, hg, by omega, hm, hcur, ?_⟩
       rw [← htake, List.take_take, Nat.min_eq_left (Nat.mul_le_mul_right _ (by omega))]
     ·rw [List.getElem?_take] at hy
      split at hy
      ·rename_i hj
       obtain ⟨cs, h1, h2⟩ := hc j y hy
       refine ⟨cs, h1, fun k u hu => ?_⟩
       have h3 := h2 k u hu
       have hk := get_lt hu
       rw [h1.len] at hk
       rw [List.getElem?_take, if_pos ?_]
       ·exact h3
       ·have : (j + 1) * s.t.sz ≤ n * s.t.sz := Nat.mul_le_mul_right _ (by omega)
        rw [Nat.add_mul] at this
        omega
      ·cases hy
   ·cases h
  ·cases h
 ·cases h

theorem Dist.append {l m : List Value} (h : Dist l) (k : Dist m) (hx : ∀ u ∈ l, ∀ v ∈ m, ∀ b, blk1 u = some b -> blk1 v = some b -> False) : Dist (l ++ m) := by
 intro i j u v b hu hv hbu hbv
 rw [List.getElem?_append] at hu hv
 split at hu <;> split at hv
 ·exact h i j u v b hu hv hbu hbv
 ·exact (hx u (List.mem_of_getElem? hu) v (List.mem_of_getElem? hv) b hbu hbv).elim
 ·exact (hx v (List.mem_of_getElem? hv) u (List.mem_of_getElem? hu) b hbv hbu).elim
 ·have := k _ _ u v b hu hv hbu hbv
  omega

theorem Dist.tail {x : Value} {l : List Value} (h : Dist (x :: l)) : Dist l := fun i j u v b hu hv hbu hbv => by
 have := h (i + 1) (j + 1) u v b (by simpa using hu) (by simpa using hv) hbu hbv
 omega

theorem Dist.head {x : Value} {l : List Value} (h : Dist (x :: l)) : ∀ u ∈ l, ∀ b, blk1 u = some b -> blk1 x = some b -> False := fun u hu b hb hx => by
 obtain ⟨j, hj⟩ := List.getElem?_of_mem hu
 have := h (j + 1) 0 u x b (by simpa using hj) rfl hb hx
 omega

theorem Dist.cons {x : Value} {l : List Value} (h : Dist l) (hx : ∀ u ∈ l, ∀ b, blk1 u = some b -> blk1 x = some b -> False) : Dist (x :: l) := by
 have h1 : Dist [x] := fun i j u v b hu hv _ _ => by
  have := get_lt hu
  have := get_lt hv
  simp at *
  omega
 exact h1.append h fun u hu v hv b hbu hbv => by
  simp at hu
  subst hu
  exact hx v hv b hbv hbu

theorem WRep.split (hW : WRep cx β ob w) {i : Nat} {o0 o1 o2 : O} {x0 x1 x2 : Value} (hi : ob[i]? = some o0) (hx : β[i]? = some x0) (hl : o0.rowish = true) (hl1 : o1.rowish = true) (hl2 : o2.rowish = true) (hs : Same w w')
  (hb1 : ∀ b, blk x1 b -> blk x0 b) (hb2 : ∀ b, b < w.heap.size -> blk x2 b -> blk x0 b) (hd : ∀ b, blk x1 b -> blk x2 b -> False)
  (hr : ∀ (β' : List Value) (ok : Bool -> Nat -> Prop), RepO cx w' ok β' o1 x1 ∧ RepO cx w' ok β' o2 x2) :
  WRep cx (β ++ [x1] ++ [x2]) (ob.set i .gone ++ [o1] ++ [o2]) w' ∧ (∀ fl b, okB cx β ob fl b -> b < w.heap.size -> okB cx (β ++ [x1] ++ [x2]) (ob.set i .gone ++ [o1] ++ [o2]) fl b ∧ w'.heap[b]? = w.heap[b]?) ∧
   Ext 0 β ob w (β ++ [x1] ++ [x2]) (ob.set i .gone ++ [o1] ++ [o2]) := by
 have hlv := O.live_of_rowish hl
 have hlen : β.length = (ob.set i .gone).length := by rw [List.length_set]; exact hW.len
 have hlen2 : (β ++ [x1]).length = (ob.set i .gone ++ [o1]).length := by simp [hW.len]
 have lt0 : ∀ b, blk x0 b -> b < w.heap.size := fun b hb => (hW.obj i _ _ hi hx).lt hlv hb
 have tri : ∀ {k : Nat} {o : O} {x : Value}, (ob.set i .gone ++ [o1] ++ [o2])[k]? = some o -> (β ++ [x1] ++ [x2])[k]? = some x -> (o = .gone ∨ (ob[k]? = some o ∧ β[k]? = some x ∧ k ≠ i)) ∨ (k = ob.length ∧ o = o1 ∧ x = x1) ∨ (k = ob.length + 1 ∧ o = o2 ∧ x = x2) := by
  intro k o x h1 h2
  rcases both_snoc hlen2 h1 h2 with ⟨h1, h2⟩ | ⟨e1, e2, e3⟩
  ·rcases both_snoc hlen h1 h2 with ⟨h1, h2⟩ | ⟨e1, e2, e3⟩
   ·rcases mem_set h1 with ⟨hne, h1⟩ | ⟨_, rfl, _⟩
    ·exact .inl (.inr ⟨h1, h2, hne⟩)
    ·exact .inl (.inl rfl)
   ·exact .inr (.inl ⟨by simpa using e1, e2, e3⟩)
  ·exact .inr (.inr ⟨by simpa using e1, e2, e3⟩)
 have hlive : ∀ b, b < w.heap.size -> LiveB (β ++ [x1] ++ [x2]) (ob.set i .gone ++ [o1] ++ [o2]) b -> LiveB β ob b := by
  rintro b hb ⟨j, o, x, h1, h2, h3, h4⟩
  rcases tri h1 h3 with (rfl | ⟨h1, h3, _⟩) | ⟨_, rfl, rfl⟩ | ⟨_, rfl, rfl⟩
  ·cases h2
  ·exact ⟨j, o, x, h1, h2, h3, h4⟩
  ·exact ⟨i, o0, x0, hi, hlv, hx, hb1 b h4⟩
  ·exact ⟨i, o0, x0, hi, hlv, hx, hb2 b hb h4⟩
 have hm : ∀ fl b, okB cx β ob fl b -> b < w.heap.size -> okB cx (β ++ [x1] ++ [x2]) (ob.set i .gone ++ [o1] ++ [o2]) fl b ∧ w'.heap[b]? = w.heap[b]? := fun fl b hok hb => ⟨okB_of hok (hlive b hb), hs.blk b hb⟩
 have hβ : ∀ (j : Nat) (y : Value), β[j]? = some y -> (β ++ [x1] ++ [x2])[j]? = some y := fun _ _ h => get_snoc (get_snoc h)
 have key : ∀ {k : Nat} {o : O} {x : Value} {b : Nat}, ob[k]? = some o -> β[k]? = some x -> k ≠ i -> o.live = true -> blk x b -> (blk x1 b ∨ blk x2 b) -> False := fun {k o x b} h1 h2 hne h3 h4 h5 => by
  have hb := (hW.obj k o x h1 h2).lt h3 h4
  have h0 : blk x0 b := h5.elim (hb1 b) (hb2 b hb)
  exact hne (hW.sep k i _ _ _ _ b h1 hi h3 hlv h2 hx h4 h0)
 refine ⟨⟨Nat.le_trans hW.hs hs.size, fun b hb hp => (hs.blk b (Nat.lt_of_lt_of_le hb hW.hs)).trans (hW.keep b hb hp), hs.os.trans hW.os, hs.tape.trans hW.tape, hs.out.trans hW.out, by simp [hW.len], fun j y hy => hβ j y (hW.pre j y hy), ?_, ?_, ?_, hW.tab⟩, hm, hβ, fun l _ b hb ht => ?_⟩
 ·intro k o x h1 h2
  rcases tri h1 h2 with (rfl | ⟨h1, h2, hne⟩) | ⟨_, rfl, rfl⟩ | ⟨_, rfl, rfl⟩
  ·trivial
  ·exact (hW.obj k o x h1 h2).mono hm hβ fun hl3 b hb => hs.blk b ((hW.obj k o x h1 h2).lt hl3 hb)
  ·exact (hr _ _).1
  ·exact (hr _ _).2
 ·intro j k p q y z b h1 h2 l1 l2 k1 k2 b1 b2
  rcases tri h1 k1 with (rfl | ⟨h1', k1', n1⟩) | ⟨e1, rfl, rfl⟩ | ⟨e1, rfl, rfl⟩
  ·cases l1
  ·rcases tri h2 k2 with (rfl | ⟨h2', k2', n2⟩) | ⟨e2, rfl, rfl⟩ | ⟨e2, rfl, rfl⟩
   ·cases l2
   ·exact hW.sep j k p q y z b h1' h2' l1 l2 k1' k2' b1 b2
   ·exact (key h1' k1' n1 l1 b1 (.inl b2)).elim
   ·exact (key h1' k1' n1 l1 b1 (.inr b2)).elim
  ·rcases tri h2 k2 with (rfl | ⟨h2, k2, n2⟩) | ⟨e2, rfl, rfl⟩ | ⟨e2, rfl, rfl⟩
   ·cases l2
   ·exact (key h2 k2 n2 l2 b2 (.inl b1)).elim
   ·omega
   ·exact (hd b b1 b2).elim
  ·rcases tri h2 k2 with (rfl | ⟨h2, k2, n2⟩) | ⟨e2, rfl, rfl⟩ | ⟨e2, rfl, rfl⟩
   ·cases l2
   ·exact (key h2 k2 n2 l2 b2 (.inr b1)).elim
   ·exact (hd b b2 b1).elim
   ·omega
 ·intro j p y b h1 l1 k1 b1
  have h0 : blk x0 b -> cx.pb b ∨ cx.w0.heap.size ≤ b := hW.own i _ _ b hi hlv hx
  rcases tri h1 k1 with (rfl | ⟨h1, k1, _⟩) | ⟨_, rfl, rfl⟩ | ⟨_, rfl, rfl⟩
  ·cases l1
  ·exact hW.own j p y b h1 l1 k1 b1
  ·exact h0 (hb1 b b1)
  ·rcases Nat.lt_or_ge b w.heap.size with hlt | hge
   ·exact h0 (hb2 b hlt b1)
   ·exact .inr (Nat.le_trans hW.hs hge)
 ·match l, ht with
  |0, ht => exact ht
  |1, ht =>
   obtain ⟨j, p, y, h1, h2, h3, h4⟩ := ht
   rcases tri h1 h3 with (rfl | ⟨h1, h3, _⟩) | ⟨_, rfl, rfl⟩ | ⟨_, rfl, rfl⟩
   ·cases h2
   ·exact ⟨j, p, y, h1, h2, h3, h4⟩
   ·exact ⟨i, o0, x0, hi, hl, hx, hb1 b h4⟩
   ·exact ⟨i, o0, x0, hi, hl, hx, hb2 b hb h4⟩
  |l + 2, ht => exact hlive b hb ht

theorem RepV.mvF {ok : Bool -> Nat -> Prop} {a n : Nat} {y : Value} {vs vs' : List Value} (ha : β[a]? = some (.tuple (y :: vs).toArray)) (hn : β[n]? = some (.tuple (y :: vs').toArray)) : ∀ (m : Nat) (x : AV) (u : Value), RepV w ok β x u -> RepV w ok β (mvF a n m x) u
 |0, _, _, h => h
 |m + 1, x, u, h => by
  unfold Ev.mvF
  split
  ·split
   ·rename_i hii
    have hii := Nat.eq_of_beq_eq_true hii
    subst hii
    cases h with
    |nst _ x vs2 hb2 =>
     rw [ha] at hb2
     have e2 := List.cons.inj (by simpa using hb2 : y :: vs = u :: vs2)
     rw [← e2.1]
     exact .nst _ _ vs' hn
   ·exact h
  ·rename_i l
   cases h with
   |agg _ vs hl hc =>
    refine .agg _ vs (by simpa using hl) fun i x z hx hz => ?_
    rw [List.getElem?_map] at hx
    cases hq : l[i]? with
    |none => rw [hq] at hx; cases hx
    |some q =>
     rw [hq] at hx
     obtain rfl := Option.some.inj hx
     exact RepV.mvF ha hn m q z (hc i q z hq hz)
  ·exact h

theorem RepL.mvF {ok : Bool -> Nat -> Prop} {a n : Nat} {y : Value} {vs vs' : List Value} (ha : β[a]? = some (.tuple (y :: vs).toArray)) (hn : β[n]? = some (.tuple (y :: vs').toArray)) (m : Nat) {l : List AV} {us : List Value} (h : RepL w ok β l us) : RepL w ok β (l.map (Ev.mvF a n m)) us :=
 ⟨by simpa using h.1, fun i x z hx hz => by
  rw [List.getElem?_map] at hx
  cases hq : l[i]? with
  |none => rw [hq] at hx; cases hx
  |some q =>
   rw [hq] at hx
   obtain rfl := Option.some.inj hx
   exact RepV.mvF ha hn m q z (h.2 i q z hq hz)⟩

theorem mvO_live (a n : Nat) (o : O) : (mvO a n o).live = o.live ∧ (mvO a n o).rowish = o.rowish := by cases o <;> exact ⟨rfl, rfl⟩

theorem WRep.mvO (hW : WRep cx β ob w) {a n : Nat} {y : Value} {vs vs' : List Value} (ha : β[a]? = some (.tuple (y :: vs).toArray)) (hn : β[n]? = some (.tuple (y :: vs').toArray)) :
  WRep cx β (ob.map (Ev.mvO a n)) w ∧ (∀ fl b, okB cx β ob fl b -> okB cx β (ob.map (Ev.mvO a n)) fl b) ∧ ∀ l b, touch l β (ob.map (Ev.mvO a n)) b -> touch l β ob b := by
 have get : ∀ {k : Nat} {o : O}, (ob.map (Ev.mvO a n))[k]? = some o -> ∃ o', ob[k]? = some o' ∧ o = Ev.mvO a n o' := fun {k o} h => by
  rw [List.getElem?_map] at h
  cases hq : ob[k]? with
  |none => rw [hq] at h; cases h
  |some q => rw [hq] at h; exact ⟨q, rfl, (Option.some.inj h).symm⟩
 have hlive : ∀ b, LiveB β (ob.map (Ev.mvO a n)) b -> LiveB β ob b := by
  rintro b ⟨j, o, x, h1, h2, h3, h4⟩
  obtain ⟨o', h1', rfl⟩ := get h1
  exact ⟨j, o', x, h1', by rw [← (mvO_live a n o').1]; exact h2, h3, h4⟩
 have hok : ∀ fl b, okB cx β ob fl b -> okB cx β (ob.map (Ev.mvO a n)) fl b := fun fl b h => okB_of h (hlive b)
 refine ⟨⟨hW.hs, hW.keep, hW.os, hW.tape, hW.out, by simp [hW.len], hW.pre, ?_, ?_, ?_, hW.tab⟩, hok, fun l b ht => ?_⟩
 ·intro k o x h1 h2
  obtain ⟨o', h1', rfl⟩ := get h1
  have hO := (hW.obj k o' x h1' h2).mono (fun fl b h _ => ⟨hok fl b h, rfl⟩) (fun _ _ h => h) (fun _ _ _ => rfl)
  cases o' with
  |box ty cs =>
   obtain ⟨g, us, rfl, hg, hr⟩ := hO
   exact ⟨g, us, rfl, hg, hr.mvF ha hn 4⟩
  |_ => exact hO
 ·intro j k p q x z b h1 h2 l1 l2 k1 k2 b1 b2
  obtain ⟨p, h1', rfl⟩ := get h1
  obtain ⟨q, h2', rfl⟩ := get h2
  rw [(mvO_live a n _).1] at l1 l2
  exact hW.sep j k p q x z b h1' h2' l1 l2 k1 k2 b1 b2
 ·intro j p x b h1 l1 k1 b1
  obtain ⟨p, h1', rfl⟩ := get h1
  rw [(mvO_live a n _).1] at l1
  exact hW.own j p x b h1' l1 k1 b1
 ·match l, ht with
  |0, ht => exact ht
  |1, ⟨j, p, x, h1, h2, h3, h4⟩ =>
   obtain ⟨p, h1', rfl⟩ := get h1
   exact ⟨j, p, x, h1', by rw [← (mvO_live a n p).2]; exact h2, h3, h4⟩
  |l + 2, ht => exact hlive b ht

theorem nestRows_rep (hW : WRep cx β ob w) {ok : Bool -> Nat -> Prop} {e : TypeId} {t : Ty} : ∀ (cs : List AV) (vs : List Value) (fl : Bool) (is : List Nat) (xs : List (List t.S)), nestRows ob e t cs = some (fl, is, xs) -> RepL w ok β cs vs →
  vs.length = xs.length ∧ (∀ u ∈ vs, ∀ b, blk1 u = some b -> ∃ i ∈ is, ∃ s v0, ob[i]? = some (.row s) ∧ β[i]? = some v0 ∧ blk v0 b ∧ (fl = true -> s.fl = true)) ∧
  (∀ (j : Nat) (u : Value), vs[j]? = some u -> ∃ ys, xs[j]? = some ys ∧ (t.flat = true -> ∀ fl, OwnEl w ⟨fl, e, t, ys⟩ u)) ∧
  (∀ (i j : Nat) (u v : Value) (b : Nat), vs[i]? = some u -> vs[j]? = some v -> blk1 u = some b -> blk1 v = some b -> i = j)
 |[], vs, fl, is, xs, h, hr => by
  simp only [nestRows, Option.some.injEq, Prod.mk.injEq] at h
  obtain ⟨rfl, rfl, rfl⟩ := h
  have hv : vs = [] := List.eq_nil_of_length_eq_zero (by rw [← hr.1]; rfl)
  subst hv
  exact ⟨rfl, fun u hu => by simp at hu, fun j u hu => by simp at hu, fun i j u v b hu => by simp at hu⟩
 |x :: cs, [], _, _, _, _, hr => by simp [RepL] at hr
 |x :: cs, v :: vs, fl, is, xs, h, hr => by
  have hr' : RepL w ok β cs vs := ⟨by simpa using hr.1, fun i y z hy hz => hr.2 (i + 1) y z (by simpa using hy) (by simpa using hz)⟩
  have h0 := hr.2 0 x v rfl rfl
  simp only [nestRows] at h
  split at h
  ·rename_i fl1 is1 xs1 hrec
   obtain ⟨i1, i2, i3, i4⟩ := nestRows_rep hW cs vs fl1 is1 xs1 hrec hr'
   split at h
   ·rename_i hn
    simp only [Option.some.injEq, Prod.mk.injEq] at h
    obtain ⟨rfl, rfl, rfl⟩ := h
    rw [isNil_eq hn] at h0
    have hv := rep_v h0
    subst hv
    refine ⟨by simp [i1], fun u hu b hb => ?_, fun j u hu => ?_, fun i j u u' b hu hu' hb hb' => ?_⟩
    ·rcases List.mem_cons.1 hu with rfl | hu
     ·cases hb
     ·exact i2 u hu b hb
    ·cases j with
     |zero =>
      simp at hu
      subst hu
      exact ⟨[], rfl, fun _ fl => ⟨[], ownsM_nil _ _ _, fun j y hy => by simp at hy⟩⟩
     |succ j => simpa using i3 j u (by simpa using hu)
    ·cases i with
     |zero =>
      simp at hu
      subst hu
      cases hb
     |succ i => cases j with
      |zero =>
       simp at hu'
       subst hu'
       cases hb'
      |succ j => exact congrArg (· + 1) (i4 i j u u' b (by simpa using hu) (by simpa using hu') hb hb')
   ·split at h
    ·rename_i k s' hap
     split at h
     ·rename_i hc
      split at h
      ·rename_i ys hys
       simp only [Option.some.injEq, Prod.mk.injEq] at h
       obtain ⟨rfl, rfl, rfl⟩ := h
       obtain ⟨hse, hni⟩ := hc
       obtain ⟨s, zs, v0, cells, rfl, hob, hk, hbv, hown, hc⟩ := appTo_rep hW hap h0
       obtain ⟨ht, rfl⟩ := as_eq hys
       simp only at ht hse
       subst ht
       have hni : k ∉ is1 := by simpa using hni
       have cross : ∀ (u : Value) (b : Nat), u ∈ vs -> blk1 u = some b -> blk1 v = some b -> False := fun u b hu hb hb' => by
        obtain ⟨i, hi, s', u0, p1, p2, p3, _⟩ := i2 u hu b hb
        have := hW.sep i k _ _ u0 v0 b p1 hob rfl rfl p2 hk p3 (hbv b ((own_blk1 hown b).2 hb'))
        subst this
        exact hni hi
       refine ⟨by simp [i1], fun u hu b hb => ?_, fun j u hu => ?_, fun i j u u' b hu hu' hb hb' => ?_⟩
       ·rcases List.mem_cons.1 hu with rfl | hu
        ·exact ⟨k, List.mem_cons_self, s, v0, hob, hk, hbv b ((own_blk1 hown b).2 hb), fun h => (Bool.and_eq_true_iff.1 h).2⟩
        ·obtain ⟨i, hi, s', u0, p1, p2, p3, p4⟩ := i2 u hu b hb
         exact ⟨i, List.mem_cons_of_mem _ hi, s', u0, p1, p2, p3, fun h => p4 (Bool.and_eq_true_iff.1 h).1⟩
       ·cases j with
        |zero =>
         simp at hu
         subst hu
         refine ⟨zs, rfl, fun hf fl => ⟨cells, by rw [← hse]; exact hown, fun j y hy => ?_⟩⟩
         obtain ⟨cs', h1, h2⟩ := hc j y hy
         exact ⟨cs', h1.of_flat hf, h2⟩
        |succ j => simpa using i3 j u (by simpa using hu)
       ·cases i with
        |zero =>
         simp at hu
         subst hu
         cases j with
         |zero => rfl
         |succ j => exact (cross u' b (List.mem_of_getElem? (by simpa using hu')) hb' hb).elim
        |succ i => cases j with
         |zero =>
          simp at hu'
          subst hu'
          exact (cross u b (List.mem_of_getElem? (by simpa using hu)) hb hb').elim
         |succ j => exact congrArg (· + 1) (i4 i j u u' b (by simpa using hu) (by simpa using hu') hb hb')
      ·cases h
     ·cases h
    ·cases h
  ·cases h

theorem newNest_res {s : Sq} {e : TypeId} {t : Ty} {xs : List (List t.S)} {fl : Bool} {is : List Nat} {cs : List AV} {vs : List Value} {fr : List AV} (hW : WRep cx β ob w) (hA : ARep w (okB cx β ob) β fr a) {ok : Bool -> Nat -> Prop} (hf : t.flat = true)
  (hn : nestRows ob e t cs = some (fl, is, xs)) (hr : RepL w ok β cs vs) (hmax : vs.length ≤ maxLen) {e0 : TypeId} :
  Res cx (β ++ [.tuple (.slice (some ⟨w.heap.size, 0, none⟩) vs.length vs.length :: vs).toArray]) ⟨fr, goneL ob is ++ [.nst ⟨fl, e0, .sl e t, xs⟩]⟩ (.nst ob.length) a (.slice (some ⟨w.heap.size, 0, none⟩) vs.length vs.length) (w.alloc (.cells vs.toArray e0)) ∧
   Ext 0 β ob w (β ++ [.tuple (.slice (some ⟨w.heap.size, 0, none⟩) vs.length vs.length :: vs).toArray]) (goneL ob is ++ [.nst ⟨fl, e0, .sl e t, xs⟩]) := by
 obtain ⟨h1, h2, h3, h4⟩ := nestRows_rep hW cs vs fl is xs hn hr
 have hsm := Same.alloc w (.cells vs.toArray e0)
 have hold : ∀ u ∈ vs, ∀ b, blk1 u = some b -> ∃ i ∈ is, ∃ s v0, ob[i]? = some (.row s) ∧ β[i]? = some v0 ∧ blk v0 b ∧ b < w.heap.size ∧ (fl = true -> cx.w0.heap.size ≤ b) := fun u hu b hb => by
  obtain ⟨i, hi, s, v0, p1, p2, hbu, p3⟩ := h2 u hu b hb
  obtain ⟨cells, hown, hfr, _⟩ := hW.obj i _ _ p1 p2
  exact ⟨i, hi, s, v0, p1, p2, hbu, own_lt hown hbu, fun h => hfr (p3 h) b hbu⟩
 obtain ⟨m1, m2, m3⟩ := hW.merge (w' := w.alloc (.cells vs.toArray e0)) (is := is) (o := .nst ⟨fl, e0, .sl e t, xs⟩) (x := .tuple (.slice (some ⟨w.heap.size, 0, none⟩) vs.length vs.length :: vs).toArray) rfl (fun b hb hx => by
   obtain ⟨u, hu, hb1⟩ := blk_tuple.1 hx
   rcases List.mem_cons.1 hu with rfl | hu
   ·have : w.heap.size = b := by simpa [blk1] using hb1
    omega
   ·obtain ⟨i, hi, s, u0, p1, p2, p3, _⟩ := hold u hu b hb1
    exact ⟨i, hi, _, u0, p1, rfl, p2, p3⟩) hsm.os hsm.tape hsm.out hsm.size (fun b hb _ => hsm.blk b hb) (fun hm => by
   refine ⟨_, vs, rfl, h1, rfl, .inr ⟨_, 0, _, _, rfl, .of (heap_alloc_new w _), Nat.le_refl _, hmax, by simp, fun j u hu => by simpa using hu⟩, fun j u hu => ?_, fun hfl b hb => ?_, fun i j u v b hu hv hb hb' => ?_⟩
   ·obtain ⟨ys, h5, h6⟩ := h3 j u hu
    refine ⟨⟨fl, e, t, xs.getD j []⟩, rfl, hf, ?_⟩
    have hgd : xs.getD j [] = ys := by rw [List.getD_eq_getElem?_getD, h5]; rfl
    rw [hgd]
    refine (h6 hf fl).move hf fun b hb => hsm.blk b ?_
    obtain ⟨cells, hown, _⟩ := h6 hf fl
    exact own_lt hown hb
   ·obtain ⟨u, hu, hb1⟩ := blk_tuple.1 hb
    rcases List.mem_cons.1 hu with rfl | hu
    ·have : w.heap.size = b := by simpa [blk1] using hb1
     have := hW.hs
     omega
    ·obtain ⟨i, hi, s, u0, p1, p2, p3, _, p4⟩ := hold u hu b hb1
     exact p4 hfl
   ·have fresh : ∀ (k : Nat) (z : Value), vs[k]? = some z -> blk1 z = some w.heap.size -> False := fun k z hz hb => by
     obtain ⟨_, _, _, _, _, _, _, hlt, _⟩ := hold z (List.mem_of_getElem? hz) _ hb
     omega
    cases i with
    |zero =>
     simp at hu
     subst hu
     have e1 : w.heap.size = b := by simpa [blk1] using hb
     subst e1
     cases j with
     |zero => rfl
     |succ j => exact (fresh j v (by simpa using hv) hb').elim
    |succ i => cases j with
     |zero =>
      simp at hv
      subst hv
      have e1 : w.heap.size = b := by simpa [blk1] using hb'
      subst e1
      exact (fresh i u (by simpa using hu) hb).elim
     |succ j => exact congrArg (· + 1) (h4 i j u v b (by simpa using hu) (by simpa using hv) hb hb'))
 refine ⟨⟨m1, hA.mono m2 fun _ _ h => get_snoc h, .nst _ _ vs ?_⟩, m3⟩
 rw [← hW.len]
 simp

theorem fstEl_rep (hW : WRep cx β ob w) {ok : Bool -> Nat -> Prop} : ∀ (t : Ty) (cs : List AV) (vs : List Value) (fl : Bool) (is : List Nat) (x : t.S), fstEl ob t cs = some (fl, is, x) -> RepL w ok β cs vs →
  ∃ us, CelO w t x vs us ∧ (∀ u ∈ us, ∀ b, blk1 u = some b -> ∃ i ∈ is, ∃ s v0, ob[i]? = some (.row s) ∧ β[i]? = some v0 ∧ blk v0 b ∧ (fl = true -> s.fl = true)) ∧ Dist us
 |.int k, cs, vs, fl, is, x, h, hr => by
  simp only [fstEl] at h
  split at h
  ·split at h
   ·rename_i k' n hk
    subst hk
    simp only [Option.some.injEq, Prod.mk.injEq] at h
    obtain ⟨_, _, rfl⟩ := h
    obtain ⟨v, rfl, hv⟩ := hr.single
    rw [rep_v hv]
    exact ⟨[], ⟨rfl, rfl⟩, fun u hu => by simp at hu, fun i j u v b hu => by simp at hu⟩
   ·cases h
  ·cases h
 |.bool, cs, vs, fl, is, x, h, hr => by
  simp only [fstEl] at h
  split at h
  ·simp only [Option.some.injEq, Prod.mk.injEq] at h
   obtain ⟨_, _, rfl⟩ := h
   obtain ⟨v, rfl, hv⟩ := hr.single
   rw [rep_v hv]
   exact ⟨[], ⟨rfl, rfl⟩, fun u hu => by simp at hu, fun i j u v b hu => by simp at hu⟩
  ·cases h
 |.str, cs, vs, fl, is, x, h, hr => by
  simp only [fstEl] at h
  split at h
  ·simp only [Option.some.injEq, Prod.mk.injEq] at h
   obtain ⟨_, _, rfl⟩ := h
   obtain ⟨v, rfl, hv⟩ := hr.single
   rw [rep_v hv]
   exact ⟨[], ⟨rfl, rfl⟩, fun u hu => by simp at hu, fun i j u v b hu => by simp at hu⟩
  ·cases h
 |.sl e t, cs, vs, fl, is, x, h, hr => by
  have one : ∀ v : Value, Dist [v] := fun v i j a b c h1 h2 _ _ => by
   have := get_lt h1
   have := get_lt h2
   simp at *
   omega
  simp only [fstEl] at h
  split at h
  ·rename_i hf
   split at h
   ·obtain ⟨v, rfl, hv⟩ := hr.single
    split at h
    ·rename_i hn
     simp only [Option.some.injEq, Prod.mk.injEq] at h
     obtain ⟨_, _, rfl⟩ := h
     rw [isNil_eq hn] at hv
     rw [rep_v hv]
     exact ⟨[.slice none 0 0], ⟨hf, _, rfl, rfl, [], ownsM_nil _ _ _, fun j y hy => by simp at hy⟩, (fun u hu b hb => by
      rw [List.mem_singleton.1 hu] at hb
      cases hb), one _⟩
    ·split at h
     ·rename_i i s' hap
      split at h
      ·rename_i hse
       split at h
       ·rename_i ys hys
        simp only [Option.some.injEq, Prod.mk.injEq] at h
        obtain ⟨rfl, rfl, rfl⟩ := h
        obtain ⟨s, zs, v0, cells, rfl, hob, hk, hbv, hown, hc⟩ := appTo_rep hW hap hv
        obtain ⟨ht, rfl⟩ := as_eq hys
        simp only at ht hse
        subst ht hse
        exact ⟨[v], ⟨hf, v, rfl, rfl, cells, hown, fun j y hy => let ⟨cs', h1, h2⟩ := hc j y hy; ⟨cs', h1.of_flat hf, h2⟩⟩, fun u hu b hb => by
         rw [List.mem_singleton.1 hu] at hb
         exact ⟨i, List.mem_singleton.2 rfl, s, v0, hob, hk, hbv b ((own_blk1 hown b).2 hb), fun h => h⟩, one v⟩
       ·cases h
      ·cases h
     ·cases h
   ·cases h
  ·cases h
 |.pr a b, cs, vs, fl, is, x, h, hr => by
  simp only [fstEl] at h
  split at h
  ·rename_i x1 x2 h1 h2
   obtain ⟨f1, i1, y1⟩ := x1
   obtain ⟨f2, i2, y2⟩ := x2
   split at h
   ·rename_i hdis
    simp only [Option.some.injEq, Prod.mk.injEq] at h
    obtain ⟨rfl, rfl, rfl⟩ := h
    obtain ⟨u1, p1, p2, p3⟩ := fstEl_rep hW a _ _ f1 i1 y1 h1 (hr.take a.sz)
    obtain ⟨u2, q1, q2, q3⟩ := fstEl_rep hW b _ _ f2 i2 y2 h2 (hr.drop a.sz)
    refine ⟨u1 ++ u2, ⟨_, _, u1, u2, (List.take_append_drop _ _).symm, rfl, p1, q1⟩, fun u hu b hb => ?_, p3.append q3 fun u hu v hv b hb hb' => ?_⟩
    ·rcases List.mem_append.1 hu with hu | hu
     ·obtain ⟨i, hi, s, v0, k1, k2, k3, k4⟩ := p2 u hu b hb
      exact ⟨i, List.mem_append_left _ hi, s, v0, k1, k2, k3, fun h => k4 (Bool.and_eq_true_iff.1 h).1⟩
     ·obtain ⟨i, hi, s, v0, k1, k2, k3, k4⟩ := q2 u hu b hb
      exact ⟨i, List.mem_append_right _ hi, s, v0, k1, k2, k3, fun h => k4 (Bool.and_eq_true_iff.1 h).2⟩
    ·obtain ⟨i, hi, s, v0, k1, k2, k3, _⟩ := p2 u hu b hb
     obtain ⟨j, hj, s', v1, l1, l2, l3, _⟩ := q2 v hv b hb'
     have := hW.sep i j _ _ v0 v1 b k1 l1 rfl rfl k2 l2 k3 l3
     subst this
     have hdis := List.all_eq_true.1 hdis i hi
     simp only [Bool.not_eq_true', List.contains_eq_mem, decide_eq_false_iff_not] at hdis
     exact hdis hj
   ·cases h
  ·cases h

theorem CelO.owns : ∀ {t : Ty} {x : t.S} {cs us : List Value}, CelO w t x cs us -> Owns w us
 |.int _, _, _, _, h => by rw [h.2]; exact fun u hu => by simp at hu
 |.bool, _, _, _, h => by rw [h.2]; exact fun u hu => by simp at hu
 |.str, _, _, _, h => by rw [h.2]; exact fun u hu => by simp at hu
 |.sl _ _, _, _, _, ⟨hf, u, _, h, h1⟩ => by rw [h]; exact fun u hu => by rw [List.mem_singleton.1 hu]; exact ⟨_, hf, h1⟩
 |.pr _ _, _, _, _, ⟨c1, c2, u1, u2, _, h, h1, h2⟩ => by rw [h]; exact fun u hu => (List.mem_append.1 hu).elim (h1.owns u) (h2.owns u)

theorem CelO.len : ∀ {t : Ty} {x : t.S} {cs us : List Value}, CelO w t x cs us -> cs.length = t.sz
 |.int _, _, _, _, h => by rw [h.1]; rfl
 |.bool, _, _, _, h => by rw [h.1]; rfl
 |.str, _, _, _, h => by rw [h.1]; rfl
 |.sl _ _, _, _, _, ⟨_, u, h, _⟩ => by rw [h]; rfl
 |.pr _ _, _, _, _, ⟨c1, c2, u1, u2, h, _, h1, h2⟩ => by rw [h, List.length_append, h1.len, h2.len]; rfl

theorem newFst_res {t : Ty} {x : t.S} {fl : Bool} {is : List Nat} {cs : List AV} {vs : List Value} {fr : List AV} (hW : WRep cx β ob w) (hA : ARep w (okB cx β ob) β fr a) {ok : Bool -> Nat -> Prop}
  (hn : fstEl ob t cs = some (fl, is, x)) (hr : RepL w ok β cs vs) {e0 : TypeId} :
  ∃ us, Res cx (β ++ [.tuple (.slice (some ⟨w.heap.size, 0, none⟩) 1 1 :: us).toArray]) ⟨fr, goneL ob is ++ [.fst ⟨fl, e0, t, [x]⟩ 0]⟩ (.nst ob.length) a (.slice (some ⟨w.heap.size, 0, none⟩) 1 1) (w.alloc (.cells vs.toArray e0)) ∧
   Ext 0 β ob w (β ++ [.tuple (.slice (some ⟨w.heap.size, 0, none⟩) 1 1 :: us).toArray]) (goneL ob is ++ [.fst ⟨fl, e0, t, [x]⟩ 0]) := by
 obtain ⟨us, h1, h2, h3⟩ := fstEl_rep hW t cs vs fl is x hn hr
 have hsm := Same.alloc w (.cells vs.toArray e0)
 have hold : ∀ u ∈ us, ∀ b, blk1 u = some b -> ∃ i ∈ is, ∃ s v0, ob[i]? = some (.row s) ∧ β[i]? = some v0 ∧ blk v0 b ∧ b < w.heap.size ∧ (fl = true -> cx.w0.heap.size ≤ b) := fun u hu b hb => by
  obtain ⟨i, hi, s, v0, p1, p2, hbu, p3⟩ := h2 u hu b hb
  obtain ⟨cells, hown, hfr, _⟩ := hW.obj i _ _ p1 p2
  exact ⟨i, hi, s, v0, p1, p2, hbu, own_lt hown hbu, fun h => hfr (p3 h) b hbu⟩
 have hmv : ∀ u ∈ us, ∀ b, blk1 u = some b -> (w.alloc (.cells vs.toArray e0)).heap[b]? = w.heap[b]? := fun u hu b hb => by
  obtain ⟨_, _, _, _, _, _, _, hlt, _⟩ := hold u hu b hb
  exact hsm.blk b hlt
 obtain ⟨m1, m2, m3⟩ := hW.merge (w' := w.alloc (.cells vs.toArray e0)) (is := is) (o := .fst ⟨fl, e0, t, [x]⟩ 0) (x := .tuple (.slice (some ⟨w.heap.size, 0, none⟩) 1 1 :: us).toArray) rfl (fun b hb hx => by
   obtain ⟨u, hu, hb1⟩ := blk_tuple.1 hx
   rcases List.mem_cons.1 hu with rfl | hu
   ·have : w.heap.size = b := by simpa [blk1] using hb1
    omega
   ·obtain ⟨i, hi, s, u0, p1, p2, p3, _⟩ := hold u hu b hb1
    exact ⟨i, hi, _, u0, p1, rfl, p2, p3⟩) hsm.os hsm.tape hsm.out hsm.size (fun b hb _ => hsm.blk b hb) (fun hm => by
   refine ⟨_, us, vs, rfl, ⟨?_, .inr ⟨_, 1, _, rfl, Nat.zero_le _, .of (heap_alloc_new w _), Nat.le_refl _, by unfold maxLen; omega, ?_, ?_⟩⟩, ?_, h1.owns.move hmv, fun j el hj _ => ?_, fun hfl b hb => ?_, h3.cons fun u hu b hb hb' => ?_⟩
   ·rw [h1.len]
    exact (Nat.one_mul _).symm
   ·rw [List.size_toArray, h1.len]
    exact (Nat.one_mul _).symm
   ·show vs.take _ = vs
    exact List.take_of_length_le (by rw [h1.len]; exact Nat.le_of_eq (Nat.one_mul _).symm)
   ·rw [h1.nr]
    exact (Nat.one_mul _).symm
   ·have hj0 : j = 0 := by
     have := get_lt hj
     simp at this
     exact this
    subst hj0
    have hj : some x = some el := hj
    obtain rfl := Option.some.inj hj
    show CelO _ t x ((vs.drop (0 * t.sz)).take t.sz) ((us.drop (0 * t.nr)).take t.nr)
    rw [Nat.zero_mul, Nat.zero_mul, List.drop_zero, List.drop_zero, List.take_of_length_le (by rw [h1.len]; exact Nat.le_refl _), List.take_of_length_le (by rw [h1.nr]; exact Nat.le_refl _)]
    exact h1.move hmv
   ·obtain ⟨u, hu, hb1⟩ := blk_tuple.1 hb
    rcases List.mem_cons.1 hu with rfl | hu
    ·have : w.heap.size = b := by simpa [blk1] using hb1
     have := hW.hs
     omega
    ·obtain ⟨i, hi, s, u0, p1, p2, p3, _, p4⟩ := hold u hu b hb1
     exact p4 hfl
   ·have : w.heap.size = b := by simpa [blk1] using hb'
    obtain ⟨_, _, _, _, _, _, _, hlt, _⟩ := hold u hu b hb
    omega)
 refine ⟨us, ⟨m1, hA.mono m2 fun _ _ h => get_snoc h, .nst _ _ us ?_⟩, m3⟩
 rw [← hW.len]
 simp

theorem takeL_rep {ok : Bool -> Nat -> Prop} {a nr n : Nat} {y : Value} {us : List Value} (hb : β[a]? = some (.tuple (y :: us).toArray)) : ∀ (cs : List AV) (vs : List Value) (q : List Nat × List Nat), takeL a nr cs = some q -> jsOk n q.1 = true -> RepL w ok β cs vs →
  vs.length = q.2.length ∧ (∀ (k : Nat) (v : Value), vs[k]? = some v -> ∃ r, q.2[k]? = some r ∧ us[n * nr + r]? = some v) ∧ q.2.Nodup
 |[], vs, q, h, _, hr => by
  simp only [takeL, Option.some.injEq] at h
  subst h
  have hv : vs = [] := List.eq_nil_of_length_eq_zero (by rw [← hr.1]; rfl)
  subst hv
  exact ⟨rfl, fun k v hk => by simp at hk, List.nodup_nil⟩
 |x :: cs, [], _, _, _, hr => by simp [RepL] at hr
 |x :: cs, v :: vs, q, h, hj, hr => by
  have hr' : RepL w ok β cs vs := ⟨by simpa using hr.1, fun i y z hy hz => hr.2 (i + 1) y z (by simpa using hy) (by simpa using hz)⟩
  have h0 := hr.2 0 x v rfl rfl
  simp only [takeL] at h
  split at h
  ·rename_i a' j nr' r q1 hrec
   split at h
   ·rename_i hc
    obtain ⟨rfl, rfl, hni⟩ := hc
    obtain rfl := Option.some.inj h
    simp only [jsOk, Bool.and_eq_true] at hj
    obtain ⟨i1, i2, i3⟩ := takeL_rep hb cs vs q1 hrec hj.2 hr'
    have hjn := Nat.eq_of_beq_eq_true hj.1
    subst hjn
    refine ⟨by simp [i1], fun k u hk => ?_, List.nodup_cons.2 ⟨by simpa using hni, i3⟩⟩
    cases k with
    |zero =>
     simp at hk
     subst hk
     cases h0 with
     |fin _ _ _ _ A n c y' vs' hb' hj' =>
      rw [hb] at hb'
      have e := List.cons.inj (by simpa using hb' : y :: us = y' :: vs')
      rw [← e.2] at hj'
      exact ⟨r, rfl, hj'⟩
    |succ k => exact i2 k u (by simpa using hk)
   ·cases h
  ·cases h

theorem CelO.row {fl : Bool} : ∀ {t : Ty} {x : t.S} {cs us : List Value}, CelO w t x cs us -> (rowsQ fl t x).length = t.nr ∧ ∀ (r : Nat) (q : Sq), (rowsQ fl t x)[r]? = some q -> ∃ u, us[r]? = some u ∧ q.t.flat = true ∧ OwnEl w q u
 |.int _, _, _, _, h => ⟨rfl, fun r q hq => by simp [rowsQ] at hq⟩
 |.bool, _, _, _, h => ⟨rfl, fun r q hq => by simp [rowsQ] at hq⟩
 |.str, _, _, _, h => ⟨rfl, fun r q hq => by simp [rowsQ] at hq⟩
 |.sl e t, xs, _, _, ⟨hf, u, _, h, h1⟩ => ⟨rfl, fun r q hq => by
  have hr : r = 0 := by
   have := get_lt hq
   simp [rowsQ] at this
   exact this
  subst hr
  simp [rowsQ] at hq
  subst hq
  exact ⟨u, by rw [h]; rfl, hf, h1⟩⟩
 |.pr a b, x, _, _, ⟨c1, c2, u1, u2, _, h, h1, h2⟩ => by
  obtain ⟨p1, p2⟩ := h1.row (fl := fl)
  obtain ⟨q1, q2⟩ := h2.row (fl := fl)
  refine ⟨by simp [rowsQ, p1, q1, Ty.nr], fun r q hq => ?_⟩
  simp only [rowsQ] at hq
  rw [List.getElem?_append] at hq
  split at hq
  ·rename_i hlt
   obtain ⟨u, k1, k2⟩ := p2 r q hq
   exact ⟨u, by rw [h, List.getElem?_append_left (get_lt k1)]; exact k1, k2⟩
  ·rename_i hge
   obtain ⟨u, k1, k2⟩ := q2 _ q hq
   refine ⟨u, ?_, k2⟩
   rw [p1, ← h1.nr] at k1
   rw [p1, ← h1.nr] at hge
   rw [h, List.getElem?_append_right (by omega)]
   exact k1

theorem takeR_rep {e : TypeId} {t : Ty} {qs : List Sq} : ∀ (rs : List Nat) (rows : List (List t.S)), takeR e t qs rs = some rows -> rows.length = rs.length ∧ ∀ (k r : Nat), rs[k]? = some r -> ∃ fl xs, rows[k]? = some xs ∧ qs[r]? = some ⟨fl, e, t, xs⟩
 |[], rows, h => by
  simp only [takeR, Option.some.injEq] at h
  subst h
  exact ⟨rfl, fun k r hk => by simp at hk⟩
 |r :: rs, rows, h => by
  simp only [takeR] at h
  split at h
  ·rename_i q l hq hl
   split at h
   ·rename_i he
    split at h
    ·rename_i ys hys
     obtain rfl := Option.some.inj h
     obtain ⟨i1, i2⟩ := takeR_rep rs l hl
     refine ⟨by simp [i1], fun k r' hk => ?_⟩
     cases k with
     |zero =>
      simp at hk
      subst hk
      obtain ⟨ht, rfl⟩ := as_eq hys
      obtain ⟨fl, e', t', xs⟩ := q
      simp only at ht he
      subst ht he
      exact ⟨fl, xs, rfl, hq⟩
     |succ k => exact i2 k r' (by simpa using hk)
    ·cases h
   ·cases h
  ·cases h

theorem nodup_at {l : List Nat} (h : l.Nodup) {i j x : Nat} (hi : l[i]? = some x) (hj : l[j]? = some x) : i = j := by
 have hi' := get_lt hi
 have hj' := get_lt hj
 rw [List.getElem?_eq_getElem hi'] at hi
 rw [List.getElem?_eq_getElem hj'] at hj
 exact (List.getElem_inj h).1 ((Option.some.inj hi).trans (Option.some.inj hj).symm)

theorem takeN_res {i : RowI} {m : Nat} {cs : List AV} {vs : List Value} {A : Option R} {K : AV -> St -> Option R} {ok : Bool -> Nat -> Prop} (g : Good cx β σ a w) (hr : RepL w ok β cs vs) (h : takeN i m cs σ K = some A) (hA : A = some r) :
  m ≤ 16777216 ∧ vs.length = m ∧ i.t.sz = 1 ∧ ∃ x' σ' β', K x' σ' = some r ∧ Res cx β' σ' x' a (.slice (some ⟨w.heap.size, 0, none⟩) m m) (w.alloc (.cells vs.toArray i.e)) ∧ Ext 0 β σ.ob w β' σ'.ob := by
 obtain ⟨ie, it, ib⟩ := i
 unfold takeN at h
 simp only at h
 split at h
 ·rename_i e t ai htake
  split at h
  ·rename_i s n hob
   split at h
   ·rename_i q hfl hq
    split at h
    ·rename_i rows hrows
     split at h
     ·rename_i hm
      obtain ⟨hm, hml⟩ := hm
      obtain rfl := Option.some.inj h
      have hvm : vs.length = m := by rw [← hr.1]; exact hml
      rcases br_some hA with ⟨h1, h2⟩ | ⟨_, h2⟩
      ·rw [Bool.and_eq_true] at h1
       obtain ⟨hjs, hlt⟩ := h1
       have hlt : n < s.xs.length := Nat.le_of_ble_eq_true hlt
       have h2 : K (.nst (σ.ob.length + 1)) ⟨σ.fr.map (mvF ai σ.ob.length 4), (σ.ob.set ai .gone ++ [O.fst s (n + 1)] ++ [O.nst ⟨s.fl, ie, .sl e t, rows⟩]).map (Ev.mvO ai σ.ob.length)⟩ = some r := h2
       refine ⟨hm, hvm, rfl, ?_⟩
       have hlob := g.W.len
       obtain ⟨x0, hb⟩ : ∃ x0, β[ai]? = some x0 := ⟨_, List.getElem?_eq_getElem (by rw [hlob]; exact get_lt hob)⟩
       have hO := g.W.obj ai _ _ hob hb
       obtain ⟨y, us, cells, rfl, ho, hlen, hin, hc, hf, hd⟩ := hO
       obtain ⟨t1, t2, t3⟩ := takeL_rep hb cs vs q hq hjs hr
       obtain ⟨k1, k2⟩ := takeR_rep q.2 rows hrows
       have hel := hc n s.xs[n] (List.getElem?_eq_getElem hlt) (Nat.le_refl _)
       have hyd : s.xs.getD n s.t.dflt = s.xs[n] := by rw [List.getD_eq_getElem?_getD, List.getElem?_eq_getElem hlt]; rfl
       rw [hyd] at k2
       obtain ⟨r1, r2⟩ := hel.row (fl := s.fl)
       have hfit : n * s.t.nr + s.t.nr ≤ us.length := by
        rw [hlen, ← Nat.succ_mul]
        exact Nat.mul_le_mul_right _ hlt
       -- each row that is taken
       have each : ∀ (k : Nat) (v : Value), vs[k]? = some v -> ∃ r xs, q.2[k]? = some r ∧ r < s.t.nr ∧ us[n * s.t.nr + r]? = some v ∧ rows[k]? = some xs ∧ ∀ fl, OwnEl w ⟨fl, e, t, xs⟩ v := fun k v hk => by
        obtain ⟨r, p1, p2⟩ := t2 k v hk
        obtain ⟨fl, xs, p3, p4⟩ := k2 k r p1
        obtain ⟨u, p5, p6, p7⟩ := r2 r _ p4
        have := sub_get p5
        rw [p2] at this
        obtain rfl := Option.some.inj this
        exact ⟨r, xs, p1, by have := get_lt p4; rw [r1] at this; exact this, p2, p3, fun _ => p7⟩
       -- what stays
       let us1 : List Value := us.take (n * s.t.nr) ++ List.replicate s.t.nr (.slice none 0 0) ++ us.drop (n * s.t.nr + (List.replicate s.t.nr (Value.slice none 0 0)).length)
       have g1 : ∀ k, us1[k]? = if k < n * s.t.nr then us[k]? else if k < n * s.t.nr + s.t.nr then some (.slice none 0 0) else us[k]? := fun k => by
        have := get_splice us (List.replicate s.t.nr (Value.slice none 0 0)) (n * s.t.nr) k (by rw [List.length_replicate]; exact hfit)
        rw [List.length_replicate] at this
        show us1[k]? = _
        simp only [us1, List.length_replicate]
        rw [this]
        by_cases c1 : k < n * s.t.nr
        ·rw [if_pos c1, if_pos c1]
        ·rw [if_neg c1, if_neg c1]
         by_cases c2 : k < n * s.t.nr + s.t.nr
         ·rw [if_pos c2, if_pos c2, List.getElem?_replicate, if_pos (by omega)]
         ·rw [if_neg c2, if_neg c2]
       have g2 : ∀ (k : Nat) (u : Value) (b : Nat), us1[k]? = some u -> blk1 u = some b -> us[k]? = some u ∧ ¬ (n * s.t.nr ≤ k ∧ k < n * s.t.nr + s.t.nr) := fun k u b hk hb => by
        rw [g1] at hk
        split at hk
        ·exact ⟨hk, by omega⟩
        ·split at hk
         ·obtain rfl := Option.some.inj hk
          cases hb
         ·exact ⟨hk, by omega⟩
       have hl1 : us1.length = us.length := by
        simp only [us1, List.length_append, List.length_take, List.length_replicate, List.length_drop]
        omega
       have g3 : ∀ (k : Nat) (u : Value) (b : Nat), (y :: us1)[k]? = some u -> blk1 u = some b -> (y :: us)[k]? = some u ∧ ¬ (n * s.t.nr + 1 ≤ k ∧ k < n * s.t.nr + s.t.nr + 1) := fun k u b hk hb => by
        cases k with
        |zero => exact ⟨hk, by omega⟩
        |succ k =>
         obtain ⟨p1, p2⟩ := g2 k u b (by simpa using hk) hb
         exact ⟨by simpa using p1, by omega⟩
       have hsm := Same.alloc w (.cells vs.toArray ie)
       have hltb : ∀ (k : Nat) (u : Value) (b : Nat), (y :: us)[k]? = some u -> blk1 u = some b -> b < w.heap.size := fun k u b hk hbu =>
        (g.W.obj ai _ _ hob hb).lt rfl (blk_tuple.2 ⟨u, List.mem_of_getElem? hk, hbu⟩)
       have hv0 : ∀ (k : Nat) (v : Value) (b : Nat), vs[k]? = some v -> blk1 v = some b -> ∃ r, q.2[k]? = some r ∧ (y :: us)[n * s.t.nr + r + 1]? = some v ∧ r < s.t.nr ∧ b < w.heap.size := fun k v b hk hbv => by
        obtain ⟨r, xs, p1, p2, p3, _⟩ := each k v hk
        have p4 : (y :: us)[n * s.t.nr + r + 1]? = some v := by simpa using p3
        exact ⟨r, p1, p4, p2, hltb _ v b p4 hbv⟩
       have hmem : ∀ u ∈ us1, ∀ b, blk1 u = some b -> u ∈ us := fun u hu b hb => by
        obtain ⟨k, hk⟩ := List.getElem?_of_mem hu
        exact List.mem_of_getElem? (g2 k u b hk hb).1
       have hmv : ∀ u ∈ us, ∀ b, blk1 u = some b -> (w.alloc (.cells vs.toArray ie)).heap[b]? = w.heap[b]? := fun u hu b hb => by
        obtain ⟨k, hk⟩ := List.getElem?_of_mem hu
        exact hsm.blk b (hltb (k + 1) u b (by simpa using hk) hb)
       have hho : ∀ v ∈ vs, ∀ b, blk1 v = some b -> (w.alloc (.cells vs.toArray ie)).heap[b]? = w.heap[b]? := fun v hv b hb => by
        obtain ⟨k, hk⟩ := List.getElem?_of_mem hv
        obtain ⟨_, _, _, _, h⟩ := hv0 k v b hk hb
        exact hsm.blk b h
       have hrr : ∀ (β' : List Value) (ok' : Bool -> Nat -> Prop), RepO cx (w.alloc (.cells vs.toArray ie)) ok' β' (.fst s (n + 1)) (.tuple (y :: us1).toArray) ∧ RepO cx (w.alloc (.cells vs.toArray ie)) ok' β' (.nst ⟨s.fl, ie, .sl e t, rows⟩) (.tuple (.slice (some ⟨w.heap.size, 0, none⟩) m m :: vs).toArray) := by
        intro β' ok'
        refine ⟨⟨y, us1, cells, rfl, ownsRow_move ho fun b h1 => hsm.blk b (own_lt ho h1), by rw [hl1]; exact hlen, fun u hu => ?_, fun j el hj hnj => ?_, fun hfl b hb1 => ?_, fun i j u v b hi hj hbu hbv => ?_⟩,
         ⟨_, vs, rfl, by rw [t1]; exact k1.symm, rfl, .inr ⟨_, 0, m, vs.toArray, by rw [hvm], .of (heap_alloc_new w _), by rw [hvm]; exact Nat.le_refl _, by unfold maxLen; omega, by simp [hvm], fun j u hu => by simpa using hu⟩, fun j u hu => ?_, fun hfl b hb1 => ?_, fun i j u v b hi hj hbu hbv => ?_⟩⟩
        ·obtain ⟨k, hk⟩ := List.getElem?_of_mem hu
         rw [g1] at hk
         have old : ∀ u, us[k]? = some u -> ∃ q : Sq, q.t.flat = true ∧ OwnEl (w.alloc (.cells vs.toArray ie)) q u := fun u hk => hin.move hmv u (List.mem_of_getElem? hk)
         split at hk
         ·exact old u hk
         ·split at hk
          ·obtain rfl := Option.some.inj hk
           exact ⟨⟨true, 0, .bool, []⟩, rfl, [], ownsM_nil _ _ _, fun j y hy => by simp at hy⟩
          ·exact old u hk
        ·have e1 : (us1.drop (j * s.t.nr)).take s.t.nr = (us.drop (j * s.t.nr)).take s.t.nr := by
          apply List.ext_getElem?
          intro k
          rw [List.getElem?_take, List.getElem?_take, List.getElem?_drop, List.getElem?_drop, g1]
          have hjm : (n + 1) * s.t.nr ≤ j * s.t.nr := Nat.mul_le_mul_right _ hnj
          rw [Nat.succ_mul] at hjm
          by_cases hk : k < s.t.nr
          ·rw [if_pos hk, if_pos hk, if_neg (by omega), if_neg (by omega)]
          ·rw [if_neg hk, if_neg hk]
         rw [e1]
         exact (hc j el hj (by omega)).move fun u hu => hmv u (sub_mem hu)
        ·obtain ⟨u, hu, hbu⟩ := blk_tuple.1 hb1
         obtain ⟨k, hk⟩ := List.getElem?_of_mem hu
         exact hf hfl b (blk_tuple.2 ⟨u, List.mem_of_getElem? (g3 k u b hk hbu).1, hbu⟩)
        ·exact hd i j u v b (g3 i u b hi hbu).1 (g3 j v b hj hbv).1 hbu hbv
        ·obtain ⟨r, xs, _, _, _, p1, p2⟩ := each j u hu
         refine ⟨⟨s.fl, e, t, rows.getD j []⟩, rfl, hfl, ?_⟩
         have hgd : rows.getD j [] = xs := by rw [List.getD_eq_getElem?_getD, p1]; rfl
         rw [hgd]
         refine (p2 s.fl).move hfl fun b hb1 => ?_
         obtain ⟨cells2, hown2, _⟩ := p2 s.fl
         exact hho u (List.mem_of_getElem? hu) b ((own_blk1 hown2 b).1 hb1)
        ·obtain ⟨u, hu, hbu⟩ := blk_tuple.1 hb1
         rcases List.mem_cons.1 hu with rfl | hu
         ·have : w.heap.size = b := by simpa [blk1] using hbu
          have := g.W.hs
          omega
         ·obtain ⟨k, hk⟩ := List.getElem?_of_mem hu
          obtain ⟨r, _, p, _⟩ := hv0 k u b hk hbu
          exact hf hfl b (blk_tuple.2 ⟨u, List.mem_of_getElem? p, hbu⟩)
        ·have fresh : ∀ (k : Nat) (z : Value), vs[k]? = some z -> blk1 z = some w.heap.size -> False := fun k z hz hb => by
          obtain ⟨_, _, _, _, h⟩ := hv0 k z _ hz hb
          omega
         cases i with
         |zero =>
          simp at hi
          subst hi
          have e1 : w.heap.size = b := by simpa [blk1] using hbu
          subst e1
          cases j with
          |zero => rfl
          |succ j => exact (fresh j v (by simpa using hj) hbv).elim
         |succ i => cases j with
          |zero =>
           simp at hj
           subst hj
           have e1 : w.heap.size = b := by simpa [blk1] using hbv
           subst e1
           exact (fresh i u (by simpa using hi) hbu).elim
          |succ j =>
           obtain ⟨r, p1, p2, p3, _⟩ := hv0 i u b (by simpa using hi) hbu
           obtain ⟨r', p1', p2', p3', _⟩ := hv0 j v b (by simpa using hj) hbv
           have := hd _ _ u v b p2 p2' hbu hbv
           have hrr : r = r' := by omega
           subst hrr
           exact congrArg (· + 1) (nodup_at t3 p1 p1')
       obtain ⟨m1, m2, m3⟩ := g.W.split (w' := w.alloc (.cells vs.toArray ie)) (o1 := .fst s (n + 1)) (o2 := .nst ⟨s.fl, ie, .sl e t, rows⟩) (x1 := .tuple (y :: us1).toArray) (x2 := .tuple (.slice (some ⟨w.heap.size, 0, none⟩) m m :: vs).toArray) hob hb rfl rfl rfl hsm
        (fun b hb1 => by
         obtain ⟨u, hu, hbu⟩ := blk_tuple.1 hb1
         obtain ⟨k, hk⟩ := List.getElem?_of_mem hu
         exact blk_tuple.2 ⟨u, List.mem_of_getElem? (g3 k u b hk hbu).1, hbu⟩)
        (fun b hlt1 hb1 => by
         obtain ⟨u, hu, hbu⟩ := blk_tuple.1 hb1
         rcases List.mem_cons.1 hu with rfl | hu
         ·have : w.heap.size = b := by simpa [blk1] using hbu
          omega
         ·obtain ⟨k, hk⟩ := List.getElem?_of_mem hu
          obtain ⟨r, _, p, _⟩ := hv0 k u b hk hbu
          exact blk_tuple.2 ⟨u, List.mem_of_getElem? p, hbu⟩)
        (fun b hb1 hb2 => by
         obtain ⟨u, hu, hbu⟩ := blk_tuple.1 hb1
         obtain ⟨k, hk⟩ := List.getElem?_of_mem hu
         obtain ⟨p1, p2⟩ := g3 k u b hk hbu
         obtain ⟨v, hv, hbv⟩ := blk_tuple.1 hb2
         rcases List.mem_cons.1 hv with rfl | hv
         ·have : w.heap.size = b := by simpa [blk1] using hbv
          have := hltb k u b p1 hbu
          omega
         ·obtain ⟨k', hk'⟩ := List.getElem?_of_mem hv
          obtain ⟨r, _, p3, p4, _⟩ := hv0 k' v b hk' hbv
          have := hd k (n * s.t.nr + r + 1) u v b p1 p3 hbu hbv
          omega) hrr
       have n1 : (β ++ [Value.tuple (y :: us1).toArray] ++ [Value.tuple (.slice (some ⟨w.heap.size, 0, none⟩) m m :: vs).toArray])[σ.ob.length]? = some (.tuple (y :: us1).toArray) := by
        refine get_snoc ?_
        rw [← hlob]
        simp
       have n2 : (β ++ [Value.tuple (y :: us1).toArray] ++ [Value.tuple (.slice (some ⟨w.heap.size, 0, none⟩) m m :: vs).toArray])[σ.ob.length + 1]? = some (.tuple (.slice (some ⟨w.heap.size, 0, none⟩) m m :: vs).toArray) := by
        rw [← hlob, List.getElem?_append_right (by simp)]
        simp
       have n0 := get_snoc (y := Value.tuple (.slice (some ⟨w.heap.size, 0, none⟩) m m :: vs).toArray) (get_snoc (y := Value.tuple (y :: us1).toArray) hb)
       obtain ⟨z1, z2, z3⟩ := m1.mvO n0 n1
       have hrep := (g.A.mono m2 m3.ext)
       refine ⟨_, _, _, h2, ⟨z1, ⟨by simpa using hrep.len, fun k x hx => ?_, hrep.def_⟩, .nst _ _ vs n2⟩, ⟨m3.ext, fun l hl b hb1 ht => m3.sub l hl b hb1 (z3 l b ht)⟩⟩
       rw [List.getElem?_map] at hx
       cases hq : σ.fr[k]? with
       |none => rw [hq] at hx; cases hx
       |some z =>
        rw [hq] at hx
        obtain rfl := Option.some.inj hx
        exact ((hrep.rep k z hq).mono (fun fl b hok _ => ⟨z2 fl b hok, rfl⟩) fun _ _ h => h).mvF n0 n1 4
      ·cases h2
     ·cases h
    ·cases h
   ·cases h
  ·cases h
 ·cases h

theorem nest_post {e0 : TypeId} {t : Ty} {cs : List AV} {vs : List Value} {n : Nat} {q : Bool × List Nat × List t.S} (hq : nestOf σ.ob t cs = some q) {ok : Bool -> Nat -> Prop} (h2 : RepL w ok β cs vs) (hvl : vs.length = n * t.sz) (hn : n ≤ 16777216) (g : Good cx β σ a w) :
  n * t.sz ≤ 16777216 ∧ Res cx (β ++ [.tuple (.slice (some ⟨w.heap.size, 0, none⟩) n n :: vs).toArray]) ⟨σ.fr, goneL σ.ob q.2.1 ++ [.nst ⟨q.1, e0, t, q.2.2⟩]⟩ (.nst σ.ob.length) a (.slice (some ⟨w.heap.size, 0, none⟩) n n) (w.alloc (.cells vs.toArray e0)) ∧
   Ext 0 β σ.ob w (β ++ [.tuple (.slice (some ⟨w.heap.size, 0, none⟩) n n :: vs).toArray]) (goneL σ.ob q.2.1 ++ [.nst ⟨q.1, e0, t, q.2.2⟩]) := by
 cases t with
 |sl e t' =>
  have hvl : vs.length = n := by
   rw [hvl]
   exact Nat.mul_one n
  subst hvl
  have hq' : (if t'.flat then nestRows σ.ob e t' cs else none) = some q := hq
  split at hq'
  ·rename_i hf
   obtain ⟨fl, is, xs⟩ := q
   have h := newNest_res (s := ⟨true, 0, .bool, []⟩) (e0 := e0) g.W g.A hf hq' h2 (by unfold maxLen; omega)
   exact ⟨by show vs.length * 1 ≤ _; omega, h⟩
  ·cases hq'
 |_ => cases hq

theorem run_buildSlice_any {t e : TypeId} {n : Nat} {parts : Array (Nat × Value)} {cells : Array Value} {ie : TypeInfo} {z : Value} (hu : P.underlying t = some (.slice e)) (hie : P.info? e = some ie) (hz : ie.zero = some z) (hsmall : n * ie.size ≤ 16777216)
  (h : Instr.fill (fun i => some (i * ie.size, ie.size)) (madeCells z.cells (n * ie.size)) parts.toList = some cells) (w : World) :
  (Instr.buildSlice t n parts).run P w = .ok (.slice (some ⟨w.heap.size, 0, none⟩) n n) (w.alloc (.cells cells e)) := by
 by_cases h0 : n * ie.size = 0
 ·have e1 : madeCells z.cells (n * ie.size) = #[] := by rw [h0]; simp [madeCells, Array.range_zero']
  rw [e1] at h
  simp [Instr.buildSlice, run_underlying hu, sizeOf, typeInfo, hie, h0, newRow, Array.range_zero', h]
 ·exact run_buildSlice w t e n parts cells ie z hu hie hz (by simp; omega) h0 h

theorem wp_buildSlice' {t : TypeId} {n : Nat} {parts : Array (Nat × Operand)} (ho : o.op = .buildSlice t n parts) (g : Good cx β σ a w) (h : evOp P Γ o σ K = some r) (lvl : Nat) : Goal P cx K r o lvl β σ a w Q := by
 simp only [evOp, ho] at h
 split at h
 ·rename_i i ps hr hps
  obtain ⟨ie, z, hut, hie, hsz, hby, hz, hzo, hb, _⟩ := tyOf_row hr
  have hp := litParts_rep g.W _ _ _ hps (by simp) (parts_rep g parts)
  split at h
  ·rename_i zs hzs
   have hzs' : zs = (List.replicate n (z.cells.toList.map AV.v)).flatten := by
    unfold zerosA at hzs
    rw [hie] at hzs
    simp only [hz] at hzs
    exact (Option.some.inj hzs).symm
   subst hzs'
   split at h
   ·rename_i cs hcs
    have hzl : z.cells.size = i.t.sz := by simpa using (zero_cel (w := w) (ok := okB cx β σ.ob true) i.t z.cells.toList hzo).len
    obtain ⟨vs, h1, h2⟩ := fill_rep _ _ _ _ _ hp (RepL.flat z.cells.toList n) hcs
    have hfl : ∀ (qs : List (Nat × Value)) (c0 c1 : Array Value), Instr.fill (fun j => some (j * i.t.sz, i.t.sz)) c0 qs = some c1 -> c1.size = c0.size := by
     intro qs
     induction qs with
     |nil =>
      intro c0 c1 h
      simp only [Instr.fill] at h
      rw [Option.some.inj h]
     |cons q qs ih =>
      intro c0 c1 h
      obtain ⟨qi, qv⟩ := q
      simp only [Instr.fill] at h
      split at h
      ·cases h
      ·rename_i hc
       rw [ih _ _ h]
       simp only [Bool.or_eq_true, decide_eq_true_eq, not_or] at hc
       have hfit : qi * i.t.sz + 0 + qv.cells.toList.length ≤ c0.size := by simp; omega
       have := foldl_set (qi * i.t.sz) qv.cells.toList 0 c0 hfit
       rw [← Array.foldl_toList, Array.toList_zipIdx, this]
       simp at hfit
       simp
       omega
    have hvl : vs.length = n * i.t.sz := by
     have := hfl _ _ _ h1
     simp at this
     rw [this, hzl]
    have hrunB : n * i.t.sz ≤ 16777216 -> (Instr.buildSlice t n (parts.map fun (i, x) => (i, a.eval x))).run P w = .ok (.slice (some ⟨w.heap.size, 0, none⟩) n n) (w.alloc (.cells vs.toArray i.e)) := by
     intro hle
     have hrun := run_buildSlice_any (n := n) (parts := parts.map fun (i, x) => (i, a.eval x)) (cells := vs.toArray) hut hie hz (by rw [hsz]; exact hle) (by
       rw [hsz]
       rw [← h1]
       congr 1
       rw [← hzl]
       exact Array.toList_inj.1 (by rw [made_flat])) w
     exact hrun
    split at h
    ·rename_i q hq
     split at h
     ·rename_i hle
      obtain ⟨hql, hle⟩ := hle
      obtain ⟨hle', hres, hext⟩ := nest_post (e0 := i.e) hq h2 hvl hle g
      have hrun := hrunB hle'
      exact wp_value (by simp only [execOp, ho, Sem.run_bind, hrun, Result.andThen_ok, Sem.run_pure]) ⟨_, _, _, _, h, rfl, hres, .of_same (Same.alloc w _) _, hext.mono (Nat.zero_le _)⟩
     ·cases h
    split at h
    ·rename_i A hA
     obtain ⟨hm, hvm, hz1, x', σ', β', q1, q2, q3⟩ := takeN_res g h2 hA h
     have hrun := hrunB (by rw [hz1]; omega)
     exact wp_value (by simp only [execOp, ho, Sem.run_bind, hrun, Result.andThen_ok, Sem.run_pure]) ⟨_, _, _, _, q1, rfl, q2, .of_same (Same.alloc w _) _, q3.mono (Nat.zero_le _)⟩
    split at h
    ·rename_i q hq
     unfold fst1 at hq
     split at hq
     ·split at h
      ·rename_i hle
       obtain ⟨fl, is, x⟩ := q
       obtain ⟨us, hres, hext⟩ := newFst_res (e0 := i.e) g.W g.A hq h2
       have hrun := hrunB (by omega)
       exact wp_value (by simp only [execOp, ho, Sem.run_bind, hrun, Result.andThen_ok, Sem.run_pure]) ⟨_, _, _, _, h, rfl, hres, .of_same (Same.alloc w _) _, hext.mono (Nat.zero_le _)⟩
      ·cases h
     ·cases hq
    rename_i hnn
    obtain ⟨f1, f2⟩ := freezeL_good cs σ.ob g.W
    have h2' : RepL w (okB cx β (freezeL σ.ob cs)) β cs vs := h2.mono (fun fl b hok hb => ⟨okB_freeze g.W hok, rfl⟩) fun _ _ h => h
    split at h
    ·rename_i q hq
     split at h
     ·rename_i hle
      obtain ⟨h3, h4⟩ := chunk_rep f1 i.t n cs vs q.1 q.2 hq h2' hvl
      have hrun := hrunB hle
      have hA' : ARep w (okB cx β (freezeL σ.ob cs)) β σ.fr a := g.A.mono (fun fl b hok hb => ⟨okB_freeze g.W hok, rfl⟩) fun _ _ h => h
      have hnm : n ≤ maxLen := by
       have := i.t.sz_pos
       have : n * 1 ≤ n * i.t.sz := Nat.mul_le_mul_left n this
       unfold maxLen
       omega
      have hres := newRow_res (a := a) (s := ⟨q.1, i.e, i.t, q.2⟩) (n := n) (cap := n) (cur := vs.toArray) f1 hA' h3.symm (Nat.le_refl _) hnm (by simpa using hvl) (by
       intro j y hy
       obtain ⟨us, h5, h6⟩ := h4 j y hy
       exact ⟨us, h5, by simpa using h6⟩)
      exact wp_value (by simp only [execOp, ho, Sem.run_bind, hrun, Result.andThen_ok, Sem.run_pure]) ⟨_, _, _, _, h, rfl, hres, .of_same (Same.alloc w _) _, (Ext.trans ⟨fun _ _ h => h, fun l _ b _ ht => touch_freeze g.W ht⟩ (Ext.snoc f1.len (fun _ b hb => by simp [blk, blk1] at hb; omega) _))⟩
     ·cases h
    ·cases h
   ·cases h
  ·cases h
 ·cases h

end Go.Ev
