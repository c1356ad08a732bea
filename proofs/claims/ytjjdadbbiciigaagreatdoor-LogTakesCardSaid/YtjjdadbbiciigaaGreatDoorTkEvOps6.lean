/- Each operation of the abstract machine is one of the machine's: makes, literals, length, append. -/
import Derived.Test.YtjjdadbbiciigaaGreatDoorTkEvOps5
import Derived.Lib.ConvBytes
import Derived.Laws.BytesString
import Derived.Laws.Cells
namespace Go.Ev
set_option linter.unusedVariables false
set_option linter.unusedSimpArgs false
set_option linter.unusedSectionVars false
variable [tG : TabG] [lG : LoopG] [dG : DfG]

variable {P : Program} {R : Type} {cx : Cx} {β β' : List Value} {ob ob' : List O} {w w' : World} {σ σ' : St} {a a' : Act}
variable {o : Oper} {K : AV -> St -> Option R} {r : R} {Q : Exit -> Act -> World -> Prop} {Γ : FuncId -> Option Sum}

theorem zero_cel {ok : Nat -> Prop} : ∀ (t : Ty) (zs : List Value), zeroOk t zs = true -> Cel w ok t t.dflt zs := by
 intro t
 induction t with
 |int k =>
  intro zs h
  match zs, h with
  |[.int k' n], h =>
   simp [zeroOk] at h
   rw [h.1, h.2]
   rfl
 |bool =>
  intro zs h
  match zs, h with
  |[.bool b], h =>
   simp [zeroOk] at h
   rw [h]
   rfl
 |str =>
  intro zs h
  match zs, h with
  |[.string s], h =>
   simp [zeroOk] at h
   have e : s = ByteArray.empty := by
    exact h
   rw [e]
   rfl
 |sl e t ih =>
  intro zs h
  match zs, h with
  |[.slice none 0 0], h => exact ⟨none, 0, rfl, Nat.le_refl _, fun h0 => absurd h0 (Nat.lt_irrefl 0)⟩
 |pr a b iha ihb =>
  intro zs h
  simp only [zeroOk, Bool.and_eq_true] at h
  exact ⟨zs.take a.sz, zs.drop a.sz, (List.take_append_drop _ _).symm, iha _ h.1, ihb _ h.2⟩

theorem foldl_set (off : Nat) : ∀ (l : List Value) (k : Nat) (cs : Array Value), off + k + l.length ≤ cs.size →
  (l.zipIdx k).foldl (fun cs p => cs.setIfInBounds (off + p.2) p.1) cs = (cs.toList.take (off + k) ++ l ++ cs.toList.drop (off + k + l.length)).toArray
 |[], k, cs, h => by simp
 |v :: l, k, cs, h => by
  simp only [List.zipIdx_cons, List.foldl_cons]
  simp only [List.length_cons] at h
  rw [foldl_set off l (k + 1) _ (by simp; omega)]
  congr 1
  apply List.ext_getElem?
  intro i
  rw [show off + (k + 1) = off + k + 1 from by omega]
  rw [get_splice _ _ _ _ (by simp; omega), get_splice _ _ _ _ (by simp; omega)]
  simp only [Array.toList_setIfInBounds, List.length_cons]
  by_cases h1 : i < off + k
  ·rw [if_pos (by omega), if_pos h1, List.getElem?_set]
   rw [if_neg (by omega)]
  ·by_cases h2 : i = off + k
   ·subst h2
    rw [if_pos (by omega), if_neg (by omega), if_pos (by omega), List.getElem?_set]
    rw [if_pos rfl, if_pos (by simp; omega)]
    simp
   ·rw [if_neg (by omega), if_neg h1]
    by_cases h3 : i < off + k + 1 + l.length
    ·rw [if_pos h3, if_pos (by omega)]
     rw [show i - (off + k) = i - (off + k + 1) + 1 from by omega]
     simp
    ·rw [if_neg h3, if_neg (by omega), List.getElem?_set]
     rw [if_neg (by omega)]

def RepP (w : World) (ok : Bool -> Nat -> Prop) (β : List Value) (ps : List (Nat × List AV)) (qs : List (Nat × Value)) : Prop :=
 ps.length = qs.length ∧ ∀ (i : Nat) (p : Nat × List AV) (q : Nat × Value), ps[i]? = some p -> qs[i]? = some q -> p.1 = q.1 ∧ RepL w ok β p.2 q.2.cells.toList

theorem RepP.tail {ok : Bool -> Nat -> Prop} {p : Nat × List AV} {q : Nat × Value} {ps : List (Nat × List AV)} {qs : List (Nat × Value)} (h : RepP w ok β (p :: ps) (q :: qs)) :
  (p.1 = q.1 ∧ RepL w ok β p.2 q.2.cells.toList) ∧ RepP w ok β ps qs :=
 ⟨h.2 0 p q rfl rfl, by simpa using h.1, fun i x y hx hy => h.2 (i + 1) x y (by simpa using hx) (by simpa using hy)⟩

theorem fill_rep {ok : Bool -> Nat -> Prop} {place : Nat -> Option (Nat × Nat)} : ∀ (ps : List (Nat × List AV)) (qs : List (Nat × Value)) (cs cs' : List AV) (vs : List Value), RepP w ok β ps qs -> RepL w ok β cs vs →
  fillP place ps cs = some cs' -> ∃ vs', Instr.fill place vs.toArray qs = some vs'.toArray ∧ RepL w ok β cs' vs'
 |[], [], cs, cs', vs, _, hr, h => by
  simp only [fillP] at h
  obtain rfl := Option.some.inj h
  exact ⟨vs, rfl, hr⟩
 |[], _ :: _, _, _, _, hp, _, _ => by simp [RepP] at hp
 |_ :: _, [], _, _, _, hp, _, _ => by simp [RepP] at hp
 |p :: ps, q :: qs, cs, cs', vs, hp, hr, h => by
  obtain ⟨⟨h1, h2⟩, h3⟩ := hp.tail
  simp only [fillP] at h
  split at h
  ·rename_i z hz
   split at h
   ·rename_i hc
    have hl : q.2.cells.toList.length = z.2 := by rw [← h2.1]; exact hc.1
    have hfit : z.1 + q.2.cells.toList.length ≤ vs.length := by rw [← hr.1, hl]; exact hc.2
    have hr' := hr.splice h2 z.1 (by rw [hc.1]; exact hc.2)
    obtain ⟨vs', h4, h5⟩ := fill_rep ps qs _ _ _ h3 hr' h
    refine ⟨vs', ?_, h5⟩
    obtain ⟨qi, qv⟩ := q
    simp only at h1 h2 hl hfit h4
    obtain ⟨z1, z2⟩ := z
    simp only [Instr.fill, ← h1, hz]
    have hsz : qv.cells.size = z2 := by simpa using hl
    rw [if_neg (by
     simp only [hsz, ne_eq, not_true_eq_false, decide_false, Bool.false_or, decide_eq_true_eq, List.size_toArray]
     have : z1 + qv.cells.toList.length ≤ vs.length := hfit
     rw [hl] at this
     omega)]
    have hf := foldl_set z1 qv.cells.toList 0 vs.toArray (by simpa using hfit)
    rw [← h4]
    congr 1
    rw [← Array.foldl_toList, Array.toList_zipIdx]
    simpa using hf
   ·cases h
  ·cases h

theorem litParts_rep (hW : WRep cx β ob w) {ok : Bool -> Nat -> Prop} : ∀ (ps : List (Nat × AV)) (qs : List (Nat × Value)) (l : List (Nat × List AV)), litParts ob ps = some l -> ps.length = qs.length →
  (∀ (i : Nat) (p : Nat × AV) (q : Nat × Value), ps[i]? = some p -> qs[i]? = some q -> p.1 = q.1 ∧ RepV w ok β p.2 q.2) -> RepP w ok β l qs
 |[], [], l, h, _, _ => by
  simp only [litParts] at h
  obtain rfl := Option.some.inj h
  exact ⟨rfl, fun i p q hp => by simp at hp⟩
 |[], _ :: _, _, _, hl, _ => by simp at hl
 |_ :: _, [], _, _, hl, _ => by simp at hl
 |(i, x) :: ps, q :: qs, l, h, hl, hr => by
  simp only [litParts] at h
  split at h
  ·rename_i cs l' hc hl'
   obtain rfl := Option.some.inj h
   have h0 := hr 0 (i, x) q rfl rfl
   have ih := litParts_rep hW ps qs l' hl' (by simpa using hl) fun j p q' hp hq => hr (j + 1) p q' (by simpa using hp) (by simpa using hq)
   refine ⟨by simp [ih.1], fun j p q' hp hq => ?_⟩
   cases j with
   |zero =>
    simp at hp hq
    subst hp hq
    exact ⟨h0.1, (cells_rep hW hc h0.2).1⟩
   |succ j => exact ih.2 j p q' (by simpa using hp) (by simpa using hq)
  ·cases h

theorem parts_rep (g : Good cx β σ a w) (parts : Array (Nat × Operand)) : ∀ (i : Nat) (p : Nat × AV) (q : Nat × Value), (parts.toList.map fun p => (p.1, σ.ev p.2))[i]? = some p →
  (parts.map fun (i, x) => (i, a.eval x)).toList[i]? = some q -> p.1 = q.1 ∧ RepV w (okB cx β σ.ob) β p.2 q.2 := by
 intro i p q hp hq
 rw [Array.toList_map, List.getElem?_map] at hq
 rw [List.getElem?_map] at hp
 cases hc : parts.toList[i]? with
 |none => rw [hc] at hp; cases hp
 |some z =>
  rw [hc] at hp hq
  simp at hp hq
  subst hp hq
  exact ⟨rfl, g.ev z.2⟩

theorem pu_build {t : TypeId} {parts : Array (Nat × Operand)} (ho : o.op = .build t parts) (g : Good cx β σ a w) (h : evOp P Γ o σ K = some r) : Pu P cx K r o β σ a w := by
 simp only [evOp, ho] at h
 split at h
 ·rename_i ps hps
  split at h
  ·rename_i cs hcs
   have hp := litParts_rep g.W _ _ _ hps (by simp) (parts_rep g parts)
   have : ∃ vs, P.built t (parts.map fun (i, x) => (i, a.eval x)).toList = some vs.toArray ∧ RepL w (okB cx β σ.ob) β cs vs := by
    unfold builtA at hcs
    unfold Program.built
    split at hcs
    ·rename_i it _ e hit hu
     split at hcs
     ·rename_i z ie hz hie
      obtain ⟨vs, h1, h2⟩ := fill_rep _ _ _ _ z.cells.toList hp (RepL.consts _ _ _ _) hcs
      refine ⟨vs, ?_, h2⟩
      simp only [hit, hu, hz, hie]
      simpa using h1
     ·cases hcs
    ·rename_i it fs hit hu
     split at hcs
     ·rename_i z places hz hpl
      obtain ⟨vs, h1, h2⟩ := fill_rep _ _ _ _ z.cells.toList hp (RepL.consts _ _ _ _) hcs
      refine ⟨vs, ?_, h2⟩
      simp only [hit, hu, hz, hpl]
      simpa using h1
     ·cases hcs
    ·cases hcs
   obtain ⟨vs, hb, hr⟩ := this
   exact pu_mk (v := .agg vs.toArray) (fun w' => by
    have hrun := run_build w' t _ _ hb
    simp only [execOp, ho, Sem.run_bind, hrun, Result.andThen_ok, Sem.run_pure]) (And.intro h (.agg _ _ hr.1 hr.2))
  ·cases h
 ·cases h

theorem wp_build' {t : TypeId} {parts : Array (Nat × Operand)} (ho : o.op = .build t parts) (g : Good cx β σ a w) (h : evOp P Γ o σ K = some r) (lvl : Nat) : Goal P cx K r o lvl β σ a w Q := (pu_build ho g h).goal g _


theorem freezeAt_live {i k : Nat} {o : O} (h : (freezeAt ob i)[k]? = some o) (hl : o.live = true) : ob[k]? = some o := by
 rcases freezeAt_cases ob i with e | ⟨s, h1, e⟩ | ⟨s, h1, e⟩ <;> rw [e] at h
 ·exact h
 ·rcases mem_set h with ⟨_, h⟩ | ⟨_, rfl, _⟩
  ·exact h
  ·cases hl
 ·rcases mem_set h with ⟨_, h⟩ | ⟨_, rfl, _⟩
  ·exact h
  ·cases hl

theorem freezeL_live {k : Nat} {o : O} (hl : o.live = true) : ∀ (cs : List AV) (ob : List O), (freezeL ob cs)[k]? = some o -> ob[k]? = some o
 |[], _, h => h
 |c :: cs, ob, h => by
  have h' := freezeL_live hl cs _ h
  unfold freeze1 at h'
  split at h'
  ·exact freezeAt_live h' hl
  ·exact freezeAt_live h' hl
  ·exact freezeAt_live h' hl
  ·exact h'

theorem touch_freeze (hW : WRep cx β ob w) {cs : List AV} {l b : Nat} (h : touch l β (freezeL ob cs) b) : touch l β ob b := by
 match l, h with
 |0, h => exact h
 |1, h =>
  obtain ⟨i, s, x, h1, hs, h2, h3⟩ := h
  exact ⟨i, s, x, freezeL_live (O.live_of_rowish hs) cs ob h1, hs, h2, h3⟩
 |l + 2, h => exact (freezeL_good cs ob hW).2 b h

theorem newRow_res {s : Sq} {fr : List AV} {cur : Array Value} {n cap : Nat} (hW : WRep cx β ob w) (hA : ARep w (okB cx β ob) β fr a) (hn : n = s.xs.length) (hcap : n ≤ cap) (hcapm : cap ≤ maxLen) (hcur : cur.size = cap * s.t.sz)
  (hel : ∀ j y, s.xs[j]? = some y -> ∃ cs, Cel w (okB cx β ob s.fl) s.t y cs ∧ ∀ (k : Nat) (u : Value), cs[k]? = some u -> cur.toList[j * s.t.sz + k]? = some u) :
  Res cx (β ++ [.slice (some ⟨w.heap.size, 0, none⟩) n cap]) ⟨fr, ob ++ [.row s]⟩ (.own ob.length) a (.slice (some ⟨w.heap.size, 0, none⟩) n cap) (w.alloc (.cells cur s.e)) := by
 subst hn
 have hnew : (O.row s).live = true -> ∀ b, blk (.slice (some ⟨w.heap.size, 0, none⟩) s.xs.length cap) b -> w.heap.size ≤ b := fun _ b hb => by
  simp [blk, blk1] at hb
  omega
 have hm : ∀ fl b, okB cx β ob fl b -> b < w.heap.size -> okB cx (β ++ [.slice (some ⟨w.heap.size, 0, none⟩) s.xs.length cap]) (ob ++ [.row s]) fl b ∧ (w.alloc (.cells cur s.e)).heap[b]? = w.heap[b]? :=
  fun fl b hok hb => ⟨ok_snoc hW.len hnew hok hb, (Same.alloc w _).blk b hb⟩
 refine ⟨hW.new (Same.alloc w _) hnew ⟨cur.toList.take (s.xs.length * s.t.sz), ⟨?_, .inr ⟨_, cap, cur, rfl, Nat.zero_le _, .of (heap_alloc_new w _), hcap, hcapm, hcur, rfl⟩⟩, ?_, ?_⟩, hA.mono hm fun _ _ h => get_snoc h, .own _ _ ?_⟩
 ·rw [List.length_take, Array.length_toList, hcur]
  exact Nat.min_eq_left (Nat.mul_le_mul_right _ hcap)
 ·intro _ b hb
  simp [blk, blk1] at hb
  subst hb
  exact hW.hs
 ·intro j y hy
  obtain ⟨cs, h1, h2⟩ := hel j y hy
  refine ⟨cs, h1.mono (hm s.fl), fun k u hu => ?_⟩
  rw [List.getElem?_take, if_pos ?_]
  ·exact h2 k u hu
  ·have hj := get_lt hy
   have hk := get_lt hu
   rw [h1.len] at hk
   have : (j + 1) * s.t.sz ≤ s.xs.length * s.t.sz := Nat.mul_le_mul_right _ hj
   rw [Nat.succ_mul] at this
   omega
 ·rw [← hW.len]
  simp

theorem newRow_in {w' : World} {s : Sq} {fr : List AV} {cur : Array Value} {n cap : Nat} (hW : WRep cx β ob w) (hA : ARep w (okB cx β ob) β fr a) (hS : Same w w') (hB : Blk w' w.heap.size cur s.e) (hn : n = s.xs.length) (hcap : n ≤ cap) (hcapm : cap ≤ maxLen) (hcur : cur.size = cap * s.t.sz)
  (hel : ∀ j y, s.xs[j]? = some y -> ∃ cs, Cel w (okB cx β ob s.fl) s.t y cs ∧ ∀ (k : Nat) (u : Value), cs[k]? = some u -> cur.toList[j * s.t.sz + k]? = some u) :
  Res cx (β ++ [.slice (some ⟨w.heap.size, 0, none⟩) n cap]) ⟨fr, ob ++ [.row s]⟩ (.own ob.length) a (.slice (some ⟨w.heap.size, 0, none⟩) n cap) w' := by
 subst hn
 have hnew : (O.row s).live = true -> ∀ b, blk (.slice (some ⟨w.heap.size, 0, none⟩) s.xs.length cap) b -> w.heap.size ≤ b := fun _ b hb => by
  simp [blk, blk1] at hb
  omega
 have hm : ∀ fl b, okB cx β ob fl b -> b < w.heap.size -> okB cx (β ++ [.slice (some ⟨w.heap.size, 0, none⟩) s.xs.length cap]) (ob ++ [.row s]) fl b ∧ w'.heap[b]? = w.heap[b]? :=
  fun fl b hok hb => ⟨ok_snoc hW.len hnew hok hb, hS.blk b hb⟩
 refine ⟨hW.new hS hnew ⟨cur.toList.take (s.xs.length * s.t.sz), ⟨?_, .inr ⟨_, cap, cur, rfl, Nat.zero_le _, hB, hcap, hcapm, hcur, rfl⟩⟩, ?_, ?_⟩, hA.mono hm fun _ _ h => get_snoc h, .own _ _ ?_⟩
 ·rw [List.length_take, Array.length_toList, hcur]
  exact Nat.min_eq_left (Nat.mul_le_mul_right _ hcap)
 ·intro _ b hb
  simp [blk, blk1] at hb
  subst hb
  exact hW.hs
 ·intro j y hy
  obtain ⟨cs, h1, h2⟩ := hel j y hy
  refine ⟨cs, h1.mono (hm s.fl), fun k u hu => ?_⟩
  rw [List.getElem?_take, if_pos ?_]
  ·exact h2 k u hu
  ·have hj := get_lt hy
   have hk := get_lt hu
   rw [h1.len] at hk
   have : (j + 1) * s.t.sz ≤ s.xs.length * s.t.sz := Nat.mul_le_mul_right _ hj
   rw [Nat.succ_mul] at this
   omega
 ·rw [← hW.len]
  simp

theorem get_made {z : Array Value} {n i : Nat} (hi : i < n) (hz : 0 < z.size) : (madeCells z n).toList[i]? = z[i % z.size]? := by
 have h1 : i % z.size < z.size := Nat.mod_lt _ hz
 simp [madeCells, hi, h1]

theorem wp_makeSlice {t : TypeId} {l c : Operand} (ho : o.op = .makeSlice t l c) (g : Good cx β σ a w) (h : evOp P Γ o σ K = some r) (lvl : Nat) : Goal P cx K r o lvl β σ a w Q := by
 have hl := g.ev l
 have hc := g.ev c
 generalize hv : a.eval l = v at hl
 generalize hu : a.eval c = u at hc
 simp only [evOp, ho] at h
 split at h
 ·rename_i i n m hr hn hm
  obtain ⟨ie, z, hut, hie, hsz, hby, hz, hzo, hb, _⟩ := tyOf_row hr
  obtain ⟨k, hk⟩ := isInt_v hn
  obtain ⟨k', hk'⟩ := isInt_v hm
  rw [hk] at hl
  rw [hk'] at hc
  have hl := rep_v hl
  have hc := rep_v hc
  subst hl hc
  rcases br_some h with ⟨h1, h2⟩ | ⟨_, h2⟩
  ·obtain ⟨h0, hnm, hlim⟩ := of_decide_eq_true h1
   have hbz : (i.bytes : Int) * m ≤ 281474976710656 := by
    have hb' : (i.bytes : Int) ≤ 65536 := by omega
    calc (i.bytes : Int) * m ≤ 65536 * m := Int.mul_le_mul_of_nonneg_right hb' (by omega)
     _ ≤ 281474976710656 := by omega
   have hrun := run_make (P := P) w t i.e ie z hut hie hz k k' n m h0 hnm (by rw [hby]; exact hbz) (by omega)
   have hzc := zero_cel (w := w) (ok := okB cx β σ.ob true) i.t z.cells.toList hzo
   have hzl : z.cells.size = i.t.sz := by simpa using hzc.len
   rw [hsz] at hrun
   have hres := newRow_res (a := a) (s := ⟨true, i.e, i.t, List.replicate n.toNat i.t.dflt⟩) (n := n.toNat) (cap := m.toNat) (cur := madeCells z.cells (m.toNat * i.t.sz)) g.W g.A (by simp) (by omega) (by unfold maxLen; omega) (size_madeCells _ _) (by
    intro j y hy
    have hj : j < n.toNat := by have := get_lt hy; simpa using this
    have hyd : y = i.t.dflt := by
     have hy' : (List.replicate n.toNat i.t.dflt)[j]? = some y := hy
     rw [List.getElem?_replicate, if_pos hj] at hy'
     exact (Option.some.inj hy').symm
    refine ⟨z.cells.toList, hyd ▸ hzc, fun q x hx => ?_⟩
    show (madeCells z.cells (m.toNat * i.t.sz)).toList[j * i.t.sz + q]? = some x
    have hq : q < i.t.sz := by have := get_lt hx; rw [hzc.len] at this; exact this
    have hjm : (j + 1) * i.t.sz ≤ m.toNat * i.t.sz := Nat.mul_le_mul_right _ (by omega)
    rw [Nat.succ_mul] at hjm
    rw [get_made (by omega) (by rw [hzl]; exact i.t.sz_pos), hzl]
    rw [show (j * i.t.sz + q) % i.t.sz = q from by rw [Nat.mul_comm, Nat.mul_add_mod]; exact Nat.mod_eq_of_lt hq]
    simpa using hx)
   exact wp_value (by simp only [execOp, ho, hv, hu, Sem.run_bind, hrun, Result.andThen_ok, Sem.run_pure]) ⟨_, _, _, _, h2, rfl, hres, .of_same (Same.alloc w _) _, Ext.snoc g.W.len (fun _ b hb => by simp [blk, blk1] at hb; omega) _⟩
  ·cases h2
 ·cases h

theorem bts_get {q : ByteArray} {j : Nat} (h : j < (bts q).length) : (bts q)[j]? = some ((q.data.toList.getD j 0).toNat : Int) := by
 have hj : j < q.data.toList.length := by simpa [bts] using h
 unfold bts
 rw [List.getElem?_map, List.getElem?_eq_getElem hj, List.getD_eq_getElem?_getD, List.getElem?_eq_getElem hj]
 rfl

theorem seen_rep (hW : WRep cx β ob w) {x : AV} {v : Value} {s : Sq} (h : seen ob x = some s) (hr : RepV w (okB cx β ob) β x v) :
  ∃ A c, v = .slice A s.xs.length c ∧ s.xs.length ≤ c ∧ (∀ hpos : 0 < s.xs.length, ∃ ad, A = some ad ∧ ∀ j, j < s.xs.length -> ∃ cs y, s.xs[j]? = some y ∧ Cel w (okB cx β ob s.fl) s.t y cs ∧ ∀ (k : Nat) (u : Value), cs[k]? = some u -> w.cell? (ad.add (j * s.t.sz + k)) = some u) := by
 cases x <;> first | (simp [seen] at h; done) | skip
 rotate_left 3
 ·rename_i i
  have h' : (match ob[i]? with | some (.frn s) => some s | _ => none) = some s := h
  split at h'
  ·rename_i s' hob
   obtain rfl := Option.some.inj h'
   cases hr with
   |nst _ _ vs hb =>
    obtain ⟨y, vs', A, c, e, hy, hc, hrow⟩ := hW.obj i _ _ hob hb
    have e := List.cons.inj (by simpa using e : v :: vs = y :: vs')
    obtain ⟨rfl, rfl⟩ := e
    refine ⟨A, c, hy, hc, fun hpos => ?_⟩
    obtain ⟨ad, rfl, _, hel⟩ := hrow hpos
    exact ⟨ad, rfl, fun j hj => let ⟨cs, ⟨y, hy, h1⟩, h2⟩ := hel j hj; ⟨cs, y, hy, h1, h2⟩⟩
  ·cases h'
 ·rename_i i j
  obtain ⟨s0, hob, hq⟩ := innAt_some h
  obtain ⟨⟨cells, hown, hc⟩, hf⟩ := inn_own hW hob hq hr
  rcases hown.2 with ⟨rfl, hn⟩ | ⟨g, cap, cur, rfl, _, hg, hncap, _⟩
  ·exact ⟨none, 0, by rw [hn], by omega, fun hpos => by omega⟩
  ·refine ⟨_, cap, rfl, hncap, fun hpos => ⟨⟨g, 0, none⟩, rfl, fun j hj => ?_⟩⟩
   obtain ⟨cs, h1, h2⟩ := hc j s.xs[j] (List.getElem?_eq_getElem hj)
   exact ⟨cs, _, List.getElem?_eq_getElem hj, h1.of_flat hf, fun k u hu => hown.cells rfl _ u (h2 k u hu)⟩
 ·rename_i s'
  obtain rfl := Option.some.inj h
  cases hr with
  |rd _ A c hc hrow =>
   refine ⟨A, c, rfl, hc, fun hpos => ?_⟩
   obtain ⟨ad, rfl, _, hel⟩ := hrow hpos
   exact ⟨ad, rfl, fun j hj => let ⟨cs, ⟨y, hy, h1⟩, h2⟩ := hel j hj; ⟨cs, y, hy, h1, h2⟩⟩
 ·rename_i i
  cases hr with
  |own _ _ hb =>
   rcases seen_own h with hob | hob
   ·obtain ⟨cells, hown, _, hc⟩ := hW.obj i _ _ hob hb
    rcases hown.2 with ⟨rfl, hn⟩ | ⟨g, cap, cur, rfl, _, hg, hncap, _⟩
    ·exact ⟨none, 0, by rw [hn], by omega, fun hpos => by omega⟩
    ·refine ⟨_, cap, rfl, hncap, fun hpos => ⟨⟨g, 0, none⟩, rfl, fun j hj => ?_⟩⟩
     obtain ⟨cs, h1, h2⟩ := hc j s.xs[j] (List.getElem?_eq_getElem hj)
     exact ⟨cs, _, List.getElem?_eq_getElem hj, h1, fun k u hu => hown.cells rfl _ u (h2 k u hu)⟩
   ·obtain ⟨A, c, rfl, hc, hrow⟩ := hW.obj i _ _ hob hb
    refine ⟨A, c, rfl, hc, fun hpos => ?_⟩
    obtain ⟨ad, rfl, _, hel⟩ := hrow hpos
    exact ⟨ad, rfl, fun j hj => let ⟨cs, ⟨y, hy, h1⟩, h2⟩ := hel j hj; ⟨cs, y, hy, h1, h2⟩⟩
 ·rename_i i z lo n
  obtain ⟨q, hq, hz, rfl⟩ := seen_view h
  cases hr with
  |view _ _ _ _ A0 L c0 A hb hn hL hA =>
   have main : ∃ A' c', Value.slice A0 L c0 = .slice A' q.xs.length c' ∧ q.xs.length ≤ c' ∧ (∀ hpos : 0 < q.xs.length, ∃ ad, A' = some ad ∧ ∀ j, j < q.xs.length -> ∃ cs y, q.xs[j]? = some y ∧ Cel w (okB cx β ob q.fl) q.t y cs ∧ ∀ (k : Nat) (u : Value), cs[k]? = some u -> w.cell? (ad.add (j * q.t.sz + k)) = some u) := by
    rcases seen_own hq with hob | hob
    ·obtain ⟨cells, hown, _, hc⟩ := hW.obj i _ _ hob hb
     rcases hown.2 with ⟨he, hn0⟩ | ⟨g, cap, cur, he, _, hg, hncap, _⟩
     ·exact ⟨none, 0, by rw [he, hn0], by omega, fun hpos => by omega⟩
     ·refine ⟨_, cap, he, hncap, fun hpos => ⟨⟨g, 0, none⟩, rfl, fun j hj => ?_⟩⟩
      obtain ⟨cs, h1, h2⟩ := hc j q.xs[j] (List.getElem?_eq_getElem hj)
      rw [he] at hown
      exact ⟨cs, _, List.getElem?_eq_getElem hj, h1, fun k u hu => hown.cells rfl _ u (h2 k u hu)⟩
    ·obtain ⟨A', c, he, hc, hrow⟩ := hW.obj i _ _ hob hb
     refine ⟨A', c, he, hc, fun hpos => ?_⟩
     obtain ⟨ad, rfl, _, hel⟩ := hrow hpos
     exact ⟨ad, rfl, fun j hj => let ⟨cs, ⟨y, hy, h1⟩, h2⟩ := hel j hj; ⟨cs, y, hy, h1, h2⟩⟩
   obtain ⟨A', c', he, hc', hel⟩ := main
   obtain ⟨rfl, rfl, rfl⟩ := Value.slice.inj he
   have hl := sub_len hn
   refine ⟨A, c0 - lo, by rw [hl], by rw [hl]; omega, fun hpos => ?_⟩
   rw [hl] at hpos
   have hq0 : 0 < q.xs.length := by omega
   obtain ⟨ad, hA0, hel2⟩ := hel hq0
   subst hA0
   rcases hA with rfl | ⟨e1, e2⟩
   ·refine ⟨ad.add (lo * z), rfl, fun j hj => ?_⟩
    rw [hl] at hj
    obtain ⟨cs, y, h1, h2, h3⟩ := hel2 (lo + j) (by omega)
    refine ⟨cs, y, ?_, h2, fun k u hu => ?_⟩
    ·show ((q.xs.drop lo).take n)[j]? = some y
     rw [List.getElem?_take, if_pos hj, List.getElem?_drop]
     exact h1
    ·rw [add_add, ← h3 k u hu, ← hz, Nat.add_mul]
     show w.cell? (ad.add (lo * q.t.sz + (j * q.t.sz + k))) = _
     congr 2
     omega
   ·omega


theorem all_cells {ok : Nat -> Prop} {t : Ty} {xs : List t.S} {ad : Addr} : ∀ n, n ≤ xs.length -> (∀ j, j < xs.length -> ∃ cs y, xs[j]? = some y ∧ Cel w ok t y cs ∧ ∀ (k : Nat) (u : Value), cs[k]? = some u -> w.cell? (ad.add (j * t.sz + k)) = some u) →
  ∃ news : List Value, news.length = n * t.sz ∧ (∀ (k : Nat) (u : Value), news[k]? = some u -> w.cell? (ad.add k) = some u) ∧ (∀ u ∈ news, u.oneCell' = true) ∧
   ∀ j y, j < n -> xs[j]? = some y -> ∃ cs, Cel w ok t y cs ∧ ∀ (k : Nat) (u : Value), cs[k]? = some u -> news[j * t.sz + k]? = some u
 |0, _, _ => ⟨[], by simp, fun k u hu => by simp at hu, fun u hu => by simp at hu, fun j y hj => by omega⟩
 |n + 1, hn, hel => by
  obtain ⟨news, h1, h2, h3, h4⟩ := all_cells n (by omega) hel
  obtain ⟨cs, y, hy, hc, hcell⟩ := hel n (by omega)
  refine ⟨news ++ cs, by rw [List.length_append, h1, hc.len, Nat.succ_mul], fun k u hu => ?_, fun u hu => ?_, fun j z hj hz => ?_⟩
  ·rw [List.getElem?_append, h1] at hu
   split at hu
   ·exact h2 k u hu
   ·rename_i hk
    have := hcell _ u hu
    rw [show n * t.sz + (k - n * t.sz) = k from by omega] at this
    exact this
  ·rcases List.mem_append.1 hu with hu | hu
   ·exact h3 u hu
   ·exact hc.one u hu
  ·rcases Nat.lt_or_ge j n with hlt | hge
   ·obtain ⟨cs', h5, h6⟩ := h4 j z hlt hz
    refine ⟨cs', h5, fun k u hu => ?_⟩
    have := h6 k u hu
    rw [List.getElem?_append, if_pos (get_lt this)]
    exact this
   ·obtain rfl : j = n := by omega
    rw [hy] at hz
    obtain rfl := Option.some.inj hz
    refine ⟨cs, hc, fun k u hu => ?_⟩
    rw [List.getElem?_append, h1, if_neg (by omega)]
    rw [show j * t.sz + k - j * t.sz = k from by omega]
    exact hu



theorem bts_run {xs : List Int} {A : Option Addr} {c : Nat} {t d e : TypeId} {ok : Nat -> Prop} (hs : P.underlying t = some (.slice e)) (he : P.underlying e = some (.int .u8)) (hd : P.underlying d = some .string)
  (hel : ∀ hpos : 0 < xs.length, ∃ ad, A = some ad ∧ ∀ j, j < xs.length -> ∃ cs y, xs[j]? = some y ∧ Cel w ok (.int .u8) y cs ∧ ∀ (k : Nat) (u : Value), cs[k]? = some u -> w.cell? (ad.add (j * (Ty.int .u8).sz + k)) = some u) :
  (convert t d (.slice A xs.length c)).run P w = .ok (.string (ofBts xs)) w := by
 rw [run_convert_bytes_string w t d e A xs.length c hs he hd]
 cases xs with
 |nil =>
  cases A with
  |none => rfl
  |some a =>
   have := run_bytesToString (P := P) w a 0 c [] (by simpa using run_loadCells_list (P := P) a [] (w := w) (fun j v h => by simp at h))
   exact this
 |cons x xs =>
  obtain ⟨ad, rfl, hel2⟩ := hel (by simp)
  have hl := run_loadCells_list (P := P) (w := w) ad ((x :: xs).map (Value.int .u8)) fun j v hj => by
   have hj' : j < (x :: xs).length := by
    have := get_lt hj
    simpa using this
   obtain ⟨cs, y, h1, h2, h3⟩ := hel2 j hj'
   have h2 : cs = [.int .u8 y] := h2
   subst h2
   have := h3 0 _ rfl
   rw [show j * (Ty.int IntKind.u8).sz + 0 = j from by show j * 1 + 0 = j; omega] at this
   rw [this, ← hj, List.getElem?_map, h1]
   rfl
  rw [List.length_map] at hl
  exact run_bytesToString w ad _ c (x :: xs) hl

theorem u8_of {e : TypeId} (h : isU8 P e = true) : P.underlying e = some (.int .u8) := by
 unfold isU8 at h
 split at h
 ·assumption
 ·cases h

theorem as_some {s : Sq} {t : Ty} {xs : List t.S} (h : s.as t = some xs) : ∃ h' : s.t = t, xs = h' ▸ s.xs := by
 unfold Sq.as at h
 split at h
 ·rename_i h'
  exact ⟨h', (Option.some.inj h).symm⟩
 ·cases h

theorem wp_bts {t d : TypeId} {x : Operand} (ho : o.op = .convert t d x) (g : Good cx β σ a w) (h : evOp P Γ o σ K = some r) (lvl : Nat) (hs : ∃ e, P.underlying t = some (.slice e)) (hd : P.underlying d = some .string) (hn : ∀ b, σ.ev x ≠ .v (.string b)) (hi : ∀ k n, σ.ev x ≠ .v (.int k n)) : Goal P cx K r o lvl β σ a w Q := by
 obtain ⟨e, hs⟩ := hs
 have hx := g.ev x
 generalize hv : a.eval x = v at hx
 simp only [evOp, ho, hs, hd] at h
 split at h
 ·rename_i h8
  have hu := u8_of h8
  split at h
  ·rename_i hnil
   have hx2 := isNil_eq hnil
   rw [hx2] at hx
   have hx := rep_v hx
   subst hx
   exact (pu_mk (v := .string ByteArray.empty) (fun w => by simp [execOp, ho, hv, convert, run_underlying hs, run_underlying hd, run_underlying hu, Conv.bytesToString]) (And.intro h (.v _)) : Pu P cx K r o β σ a w).goal g _
  ·split at h
   ·rename_i q hq
    split at h
    ·rename_i xs hxs
     obtain ⟨A, c, rfl, hc, hel⟩ := seen_rep g.W hq hx
     obtain ⟨ht, hxe⟩ := as_some hxs
     obtain ⟨fl, e1, t1, ys⟩ := q
     dsimp only at ht
     subst ht
     dsimp only at hxe
     subst hxe
     have hrun := bts_run (c := c) hs hu hd hel
     exact wp_value (by simp only [execOp, ho, hv, Sem.run_bind, hrun, Result.andThen_ok, Sem.run_pure]) ⟨_, _, σ, β, h, rfl, ⟨g.W, g.A, .v _⟩, .refl _, .refl _ _ _ _⟩
    ·cases h
   ·cases h
 ·cases h

theorem wp_convert {t d : TypeId} {x : Operand} (ho : o.op = .convert t d x) (g : Good cx β σ a w) (h : evOp P Γ o σ K = some r) (lvl : Nat) (hlv : (∃ i, σ.ev x = .own i) -> t = d -> 2 ≤ lvl) : Goal P cx K r o lvl β σ a w Q := by
 by_cases hno : ∃ i, σ.ev x = .own i
 ·obtain ⟨i, hi⟩ := hno
  have hx := g.ev x
  generalize hv : a.eval x = v at hx
  have h' := h
  simp only [evOp, ho] at h
  split at h
  ·rename_i he; rw [hi] at he; cases he
  ·rename_i he; rw [hi] at he; cases he
  ·rename_i he; rw [hi] at he; cases he
  ·rename_i he; rw [hi] at he; cases he
  ·rename_i e0 e ai hs hd he
   rw [hi] at he
   obtain rfl := AV.own.inj he
   split at h
   ·rename_i q hsd hu8 hob
    obtain rfl : t = d := by simpa using hsd
    have hlv := hlv ⟨i, hi⟩ rfl
    split at h
    ·rename_i hqe
     rcases br_some h with ⟨h1, h2⟩ | ⟨_, h2⟩
     ·have hpos := of_decide_eq_true h1
      have h2 : K (.own i) σ = some r := h2
      have hu : P.underlying e = some (.int .u8) := by
       unfold isU8 at hu8
       split at hu8
       ·assumption
       ·cases hu8
      rw [hi] at hx
      have hx' := hx
      cases hx with
      |own _ _ hb =>
       have hO := g.W.obj i _ _ hob hb
       obtain ⟨cells, hown, hf, hc⟩ := hO
       rcases hown.2 with ⟨_, h0⟩ | ⟨gg, cap, cur, rfl, hg0, hg, hcap, hcm, hcs, htake⟩
       ·omega
       ·rw [hqe] at hg
        obtain ⟨m1, m2, m3, m4, m5, m6, m7⟩ := hg.mark
        have hlive : LiveB β σ.ob gg := ⟨i, _, _, hob, rfl, hb, rfl⟩
        have hset : σ.ob.set i (.row q) = σ.ob := by
         apply List.ext_getElem?
         intro k
         rw [List.getElem?_set]
         split
         ·rename_i hk
          subst hk
          rw [if_pos (get_lt hob), hob]
         ·rfl
        have hm : ∀ fl b, okB cx β σ.ob fl b -> b < w.heap.size -> okB cx β σ.ob fl b ∧ (w.freeze ⟨gg, cur.size, none⟩ 1).heap[b]? = w.heap[b]? := fun fl b hok _ => ⟨hok, m3 b fun e => hok.1 (by subst e; exact hlive)⟩
        have hW' := g.W.write hob hb rfl m5 m6 m7 (Nat.le_of_eq m4.symm) (fun b _ hne => m3 b fun e => hne (by subst e; rfl)) (o' := .row q) rfl (by
         rw [hset]
         exact ⟨cells, ⟨hown.1, .inr ⟨gg, cap, cur, rfl, hg0, by rw [hqe]; exact m2, hcap, hcm, hcs, htake⟩⟩, hf, fun j y hy => let ⟨cs, h1, h2⟩ := hc j y hy; ⟨cs, h1.mono (hm q.fl), h2⟩⟩)
        rw [hset] at hW'
        have hrun := run_mark (P := P) (t := t) (n := q.xs.length) (c := cap) hg hd hu
        refine wp_value (v := .slice (some ⟨gg, 0, none⟩) q.xs.length cap) (by simp only [execOp, ho, hv, Sem.run_bind, hrun, Result.andThen_ok, Sem.run_pure]) ⟨_, _, σ, β, h2, rfl, ⟨hW', g.A.mono hm fun _ _ h => h, .own _ _ hb⟩, ⟨Nat.le_of_eq m4.symm, fun b _ ht => m3 b fun e => ht ?_⟩, .refl _ _ _ _⟩
        obtain ⟨l, rfl⟩ : ∃ m, lvl = m + 2 := ⟨lvl - 2, by omega⟩
        subst e
        exact hlive
     ·cases h2
    ·cases h
   ·cases h
  ·exact wp_bts ho g h' lvl ⟨_, by assumption⟩ (by assumption) (fun b e => by simp_all) (fun k n e => by simp_all)
  ·cases h
 have hno' : ∀ i, σ.ev x ≠ .own i := fun i e => hno ⟨i, e⟩
 by_cases hns : ∃ k n, σ.ev x = .v (.int k n)
 ·exact (pu_convert ho g hns h).goal g _
 ·have hx := g.ev x
  generalize hv : a.eval x = v at hx
  have h' := h
  simp only [evOp, ho] at h
  split at h
  ·rename_i s k k' n hs hd he
   exact absurd ⟨_, _, he⟩ hns
  ·rename_i kk k' n hs hd he
   exact absurd ⟨_, _, he⟩ hns
  ·rename_i s q hs hd he
   rw [he] at hx
   have hx := rep_v hx
   subst hx
   exact (pu_mk (v := .string q) (fun w => by cases s <;> simp [execOp, ho, hv, convert, run_underlying hs, run_underlying hd]) (And.intro h (.v _)) : Pu P cx K r o β σ a w).goal g _
  ·rename_i s e q hs hd he
   rw [he] at hx
   have hx := rep_v hx
   subst hx
   split at h
   ·rename_i h8
    have hu : P.underlying e = some (.int .u8) := by
     unfold isU8 at h8
     split at h8
     ·assumption
     ·cases h8
    have hrun := Go.Lib.run_convert_string_bytes (P := P) w t d e q hs hd hu
    have hsm : Same w (Go.Lib.bytesWorld w e q) := ⟨rfl, rfl, rfl, by rw [Go.Lib.bytesWorld_size]; omega, fun b hb => Go.Lib.bytesWorld_at_old w e q b hb⟩
    have hlen : (bts q).length = q.size := by unfold bts; rw [List.length_map, Array.length_toList]; rfl
    rcases br_some h with ⟨hq, h2⟩ | ⟨_, h2⟩
    ·have hq := of_decide_eq_true hq
     have hnew := Go.Lib.bytesWorld_at_new w e q
     have hsz : (Go.Lib.bytesCells w e q).size = grownCap w q.size 0 e := by
      have := grownCap_ge w q.size 0 e
      have hd : q.data.size = q.size := rfl
      simp only [Go.Lib.bytesCells, Array.size_append, Array.size_map, Array.size_replicate, hd]
      omega
     have hres := newRow_in (a := a) (s := ⟨true, e, .int .u8, bts q⟩) (n := q.size) (cap := grownCap w q.size 0 e) (cur := Go.Lib.bytesCells w e q) g.W g.A hsm ⟨_, hnew, .inr (Nat.le_refl _)⟩ hlen.symm (grownCap_ge _ _ _ _)
      (grownCap_le_maxLen w q.size 0 e (by unfold maxLen; omega)) (by rw [hsz]; show _ = _ * 1; omega) (by
       intro j y hy
       have hj : j < (bts q).length := get_lt hy
       have hy : (bts q)[j]? = some y := hy
       rw [bts_get hj] at hy
       obtain rfl := Option.some.inj hy
       refine ⟨[.int .u8 ((q.data.toList.getD j 0).toNat : Int)], rfl, fun k u hk => ?_⟩
       have hj' : j < q.size := by rw [← hlen]; exact hj
       cases k with
       |succ k => simp at hk
       |zero =>
        obtain rfl := Option.some.inj hk
        show (Go.Lib.bytesCells w e q).toList[j * 1 + 0]? = _
        rw [Nat.mul_one, Nat.add_zero]
        have hc := Go.Lib.bytesWorld_cell w e q j hj'
        simp only [World.cell?, hnew] at hc
        rw [Array.getElem?_toList]
        exact hc)
     exact wp_value (by simp only [execOp, ho, hv, Sem.run_bind, hrun, Result.andThen_ok, Sem.run_pure]) ⟨_, _, _, _, h2, rfl, hres, .of_same hsm _, Ext.snoc g.W.len (fun _ b hb => by simp [blk, blk1] at hb; omega) _⟩
    ·cases h2
   ·cases h
  ·rename_i he
   exact absurd he (hno' _)
  ·exact wp_bts ho g h' lvl ⟨_, by assumption⟩ (by assumption) (fun b e => by simp_all) (fun k n e => by simp_all)
  ·cases h

theorem chunk_rep (hW : WRep cx β ob w) (t : Ty) : ∀ (n : Nat) (cs : List AV) (vs : List Value) (fl : Bool) (ys : List t.S), chunk ob t n cs = some (fl, ys) -> RepL w (okB cx β ob) β cs vs -> vs.length = n * t.sz →
  ys.length = n ∧ ∀ j y, ys[j]? = some y -> ∃ us, Cel w (okB cx β ob fl) t y us ∧ ∀ (k : Nat) (u : Value), us[k]? = some u -> vs[j * t.sz + k]? = some u
 |0, cs, vs, fl, ys, h, hr, hl => by
  simp only [chunk] at h
  obtain ⟨rfl, rfl⟩ := Prod.mk.inj (Option.some.inj h)
  exact ⟨rfl, fun j y hy => by simp at hy⟩
 |n + 1, cs, vs, fl, ys, h, hr, hl => by
  simp only [chunk] at h
  split at h
  ·rename_i x r hx hrest
   obtain ⟨rfl, rfl⟩ := Prod.mk.inj (Option.some.inj h)
   rw [Nat.succ_mul] at hl
   obtain ⟨h1, h2⟩ := chunk_rep hW t n _ _ r.1 r.2 hrest (hr.drop t.sz) (by rw [List.length_drop, hl]; omega)
   refine ⟨by simp [h1], fun j y hy => ?_⟩
   cases j with
   |zero =>
    simp at hy
    subst hy
    refine ⟨_, (unre_rep hW t _ _ x.1 x.2 hx (hr.take t.sz)).weaken fun h => (Bool.and_eq_true_iff.1 h).1, fun k u hu => ?_⟩
    rw [List.getElem?_take] at hu
    split at hu
    ·simpa using hu
    ·cases hu
   |succ j =>
    obtain ⟨us, h3, h4⟩ := h2 j y (by simpa using hy)
    refine ⟨us, h3.weaken fun h => (Bool.and_eq_true_iff.1 h).2, fun k u hu => ?_⟩
    have := h4 k u hu
    rw [List.getElem?_drop] at this
    rw [← this]
    congr 1
    rw [Nat.succ_mul]
    omega
  ·cases h

theorem made_flat (z : Array Value) : ∀ n, (madeCells z (n * z.size)).toList = (List.replicate n z.toList).flatten := by
 intro n
 apply List.ext_getElem?
 intro i
 by_cases hi : i < n * z.size
 ·have hz : 0 < z.size := by
   rcases Nat.eq_zero_or_pos z.size with h | h
   ·rw [h] at hi
    omega
   ·exact h
  rw [get_made hi hz]
  clear hz
  induction n generalizing i with
  |zero => omega
  |succ n ih =>
   rw [List.replicate_succ, List.flatten_cons, List.getElem?_append, Array.length_toList]
   split
   ·rename_i hlt
    rw [Nat.mod_eq_of_lt hlt]
    simp
   ·rename_i hlt
    rw [Nat.succ_mul] at hi
    rw [← ih (i - z.size) (by omega)]
    congr 1
    rw [Nat.mod_eq_sub_mod (by omega)]
 ·rw [List.getElem?_eq_none (by simp [madeCells]; omega), List.getElem?_eq_none (by simp; omega)]

theorem RepL.flat {ok : Bool -> Nat -> Prop} (vs : List Value) (n : Nat) : RepL w ok β (List.replicate n (vs.map AV.v)).flatten (List.replicate n vs).flatten := by
 have e : (List.replicate n (vs.map AV.v)).flatten = (List.replicate n vs).flatten.map AV.v := by simp [List.map_flatten]
 rw [e]
 exact RepL.consts _ _ _ _

/-! ### Objects that are merged into a new one -/

theorem goneL_len : ∀ (is : List Nat) (ob : List O), (goneL ob is).length = ob.length
 |[], _ => rfl
 |i :: is, ob => by rw [goneL, goneL_len is]; simp

theorem goneL_get : ∀ (is : List Nat) (ob : List O) (k : Nat) (o : O), (goneL ob is)[k]? = some o -> o = .gone ∨ (ob[k]? = some o ∧ k ∉ is)
 |[], ob, k, o, h => .inr ⟨h, by simp⟩
 |i :: is, ob, k, o, h => by
  rcases goneL_get is _ k o h with h | ⟨h1, h2⟩
  ·exact .inl h
  ·rcases mem_set h1 with ⟨hne, h1⟩ | ⟨_, rfl, _⟩
   ·exact .inr ⟨h1, by simp [hne, h2]⟩
   ·exact .inl rfl

theorem WRep.merge (hW : WRep cx β ob w) {is : List Nat} {o : O} {x : Value} (hlo : o.rowish = true)
  (hblk : ∀ b, b < w.heap.size -> blk x b -> ∃ i ∈ is, ∃ o1 x1, ob[i]? = some o1 ∧ o1.rowish = true ∧ β[i]? = some x1 ∧ blk x1 b)
  (hos : w'.os = w.os) (htape : w'.tape = w.tape) (hout : w'.output = w.output) (hsize : w.heap.size ≤ w'.heap.size)
  (hheap : ∀ b, b < w.heap.size -> (∀ i ∈ is, ∀ o1 x1, ob[i]? = some o1 -> o1.live = true -> β[i]? = some x1 -> ¬ blk x1 b) -> w'.heap[b]? = w.heap[b]?)
  (hr : (∀ fl b, okB cx β ob fl b -> b < w.heap.size -> okB cx (β ++ [x]) (goneL ob is ++ [o]) fl b ∧ w'.heap[b]? = w.heap[b]?) -> RepO cx w' (okB cx (β ++ [x]) (goneL ob is ++ [o])) (β ++ [x]) o x) :
  WRep cx (β ++ [x]) (goneL ob is ++ [o]) w' ∧ (∀ fl b, okB cx β ob fl b -> b < w.heap.size -> okB cx (β ++ [x]) (goneL ob is ++ [o]) fl b ∧ w'.heap[b]? = w.heap[b]?) ∧ Ext 0 β ob w (β ++ [x]) (goneL ob is ++ [o]) := by
 have hlen : β.length = (goneL ob is).length := by rw [goneL_len]; exact hW.len
 have hlive : ∀ b, b < w.heap.size -> LiveB (β ++ [x]) (goneL ob is ++ [o]) b -> LiveB β ob b := fun b hb hl => by
  rcases live_snoc hlen hl with ⟨j, o1, x1, h1, h2, h3, h4⟩ | ⟨_, hx⟩
  ·rcases goneL_get is ob j o1 h1 with rfl | ⟨h1, _⟩
   ·cases h2
   ·exact ⟨j, o1, x1, h1, h2, h3, h4⟩
  ·obtain ⟨i, _, o1, x1, h1, h2, h3, h4⟩ := hblk b hb hx
   exact ⟨i, o1, x1, h1, O.live_of_rowish h2, h3, h4⟩
 have hm : ∀ fl b, okB cx β ob fl b -> b < w.heap.size -> okB cx (β ++ [x]) (goneL ob is ++ [o]) fl b ∧ w'.heap[b]? = w.heap[b]? := fun fl b hok hb =>
  ⟨okB_of hok (hlive b hb), hheap b hb fun i _ o1 x1 h1 h2 h3 h4 => hok.1 ⟨i, o1, x1, h1, h2, h3, h4⟩⟩
 have hβ : ∀ (j : Nat) (y : Value), β[j]? = some y -> (β ++ [x])[j]? = some y := fun _ _ h => get_snoc h
 have hown : ∀ b, blk x b -> cx.pb b ∨ cx.w0.heap.size ≤ b := fun b hb => by
  rcases Nat.lt_or_ge b w.heap.size with hlt | hge
  ·obtain ⟨i, _, o1, x1, h1, h2, h3, h4⟩ := hblk b hlt hb
   exact hW.own i o1 x1 b h1 (O.live_of_rowish h2) h3 h4
  ·exact .inr (Nat.le_trans hW.hs hge)
 have key : ∀ (j : Nat) (o1 : O) (x1 : Value) (b : Nat), (goneL ob is)[j]? = some o1 -> β[j]? = some x1 -> o1.live = true -> blk x1 b -> blk x b -> False := fun j o1 x1 b p1 q1 l1 b1 b2 => by
  rcases goneL_get is ob j o1 p1 with rfl | ⟨p1, hj⟩
  ·cases l1
  ·obtain ⟨i, hi, o2, x2, h1, h2, h3, h4⟩ := hblk b ((hW.obj j o1 x1 p1 q1).lt l1 b1) b2
   have := hW.sep j i o1 o2 x1 x2 b p1 h1 l1 (O.live_of_rowish h2) q1 h3 b1 h4
   subst this
   exact hj hi
 refine ⟨⟨Nat.le_trans hW.hs hsize, fun b hb hp => ?_, hos.trans hW.os, htape.trans hW.tape, hout.trans hW.out, by simp [goneL_len, hW.len], fun j y hy => hβ j y (hW.pre j y hy), ?_, ?_, ?_, hW.tab⟩, hm, fun _ _ h => get_snoc h, fun l _ b hb ht => ?_⟩
 ·rw [hheap b (Nat.lt_of_lt_of_le hb hW.hs) (fun i _ o1 x1 h1 h2 h3 h4 => ?_), hW.keep b hb hp]
  rcases hW.own i o1 x1 b h1 h2 h3 h4 with h | h
  ·exact hp h
  ·omega
 ·intro j o1 x1 h1 k1
  rcases both_snoc hlen h1 k1 with ⟨p1, q1⟩ | ⟨_, rfl, rfl⟩
  ·rcases goneL_get is ob j o1 p1 with rfl | ⟨p1, hj⟩
   ·trivial
   ·refine (hW.obj j o1 x1 p1 q1).mono hm hβ fun hl b hb => hheap b ((hW.obj j o1 x1 p1 q1).lt hl hb) fun i hi o2 x2 h1 h2 h3 h4 => ?_
    have := hW.sep j i o1 o2 x1 x2 b p1 h1 hl h2 q1 h3 hb h4
    subst this
    exact hj hi
  ·exact hr hm
 ·intro j k o1 o2 x1 x2 b h1 h2 l1 l2 k1 k2 b1 b2
  rcases both_snoc hlen h1 k1 with ⟨p1, q1⟩ | ⟨e1, rfl, rfl⟩ <;> rcases both_snoc hlen h2 k2 with ⟨p2, q2⟩ | ⟨e2, rfl, rfl⟩
  ·rcases goneL_get is ob j o1 p1 with rfl | ⟨p1, _⟩
   ·cases l1
   ·rcases goneL_get is ob k o2 p2 with rfl | ⟨p2, _⟩
    ·cases l2
    ·exact hW.sep j k o1 o2 x1 x2 b p1 p2 l1 l2 q1 q2 b1 b2
  ·exact (key j o1 x1 b p1 q1 l1 b1 b2).elim
  ·exact (key k o2 x2 b p2 q2 l2 b2 b1).elim
  ·omega
 ·intro j o1 x1 b h1 l1 k1 b1
  rcases both_snoc hlen h1 k1 with ⟨p1, q1⟩ | ⟨_, rfl, rfl⟩
  ·rcases goneL_get is ob j o1 p1 with rfl | ⟨p1, _⟩
   ·cases l1
   ·exact hW.own j o1 x1 b p1 l1 q1 b1
  ·exact hown b b1
 ·match l, ht with
  |0, ht => exact ht
  |1, ht =>
   obtain ⟨j, o1, x1, h1, hs, h2, h3⟩ := ht
   rcases both_snoc hlen h1 h2 with ⟨k1, k2⟩ | ⟨_, rfl, rfl⟩
   ·rcases goneL_get is ob j o1 k1 with rfl | ⟨k1, _⟩
    ·cases hs
    ·exact ⟨j, o1, x1, k1, hs, k2, h3⟩
   ·obtain ⟨i, _, o2, x2, p1, p2, p3, p4⟩ := hblk b hb h3
    exact ⟨i, o2, x2, p1, p2, p3, p4⟩
  |l + 2, ht => exact hlive b hb ht

theorem appTo_rep (hW : WRep cx β ob w) {ok : Bool -> Nat -> Prop} {x : AV} {v : Value} {i : Nat} {s' : Sq} (h : appTo ob x = some (i, s')) (hr : RepV w ok β x v) :
  ∃ (s : Sq) (xs : List s.t.S) (v0 : Value) (cells : List Value), s' = ⟨s.fl, s.e, s.t, xs⟩ ∧ ob[i]? = some (.row s) ∧ β[i]? = some v0 ∧ (∀ b, blk v b -> blk v0 b) ∧ ownsM w s.e s.t.sz v xs.length cells ∧
   ∀ j y, xs[j]? = some y -> ∃ cs, Cel w (okB cx β ob s.fl) s.t y cs ∧ ∀ (k : Nat) (u : Value), cs[k]? = some u -> cells[j * s.t.sz + k]? = some u := by
 unfold appTo at h
 split at h
 ·split at h
  ·rename_i i' _ s hob
   obtain ⟨rfl, rfl⟩ := Prod.mk.inj (Option.some.inj h)
   cases hr with
   |own _ _ hb =>
    obtain ⟨cells, hown, _, hc⟩ := hW.obj _ _ _ hob hb
    exact ⟨s, s.xs, v, cells, rfl, hob, hb, fun _ h => h, hown, hc⟩
  ·cases h
 ·split at h
  ·rename_i i' z lo n _ s hob
   split at h
   ·rename_i hz
    obtain ⟨hz, rfl⟩ := hz
    obtain ⟨rfl, rfl⟩ := Prod.mk.inj (Option.some.inj h)
    cases hr with
    |view _ _ _ _ A0 L c0 A hb hn hL hA =>
     have hA : A = A0 := by
      rcases hA with rfl | ⟨_, h⟩
      ·cases A0 <;> simp [Addr.add]
      ·omega
     subst hA
     obtain ⟨cells, hown, _, hc⟩ := hW.obj _ _ _ hob hb
     have hL' : L = s.xs.length := by
      rcases hown.2 with ⟨he, h0⟩ | ⟨g, cap, cur, he, _⟩
      ·obtain ⟨_, rfl, _⟩ := Value.slice.inj he
       exact h0.symm
      ·obtain ⟨_, h1, _⟩ := Value.slice.inj he
       exact h1
     subst hL'
     have hlen : (s.xs.take n).length = n := by rw [List.length_take]; omega
     refine ⟨s, s.xs.take n, _, cells.take (n * s.t.sz), rfl, hob, hb, fun b hb => by cases A <;> exact hb, ?_, fun j y hy => ?_⟩
     ·rw [hlen]
      refine ⟨by rw [List.length_take, hown.1]; exact Nat.min_eq_left (Nat.mul_le_mul_right _ (by omega)), ?_⟩
      rcases hown.2 with ⟨he, h0⟩ | ⟨g, cap, cur, he, hg0, hg, hcap, hm, hcur, htake⟩
      ·obtain ⟨rfl, _, rfl⟩ := Value.slice.inj he
       left
       have : n = 0 := by omega
       subst this
       exact ⟨rfl, rfl⟩
      ·obtain ⟨rfl, _, rfl⟩ := Value.slice.inj he
       refine .inr ⟨g, c0, cur, rfl, hg0, hg, by omega, hm, hcur, ?_⟩
       rw [← htake, List.take_take, Nat.min_eq_left (Nat.mul_le_mul_right _ (by omega))]
     ·rw [List.getElem?_take] at hy
      split at hy
      ·rename_i hj
       obtain ⟨cs, h1, h2⟩ := hc j y hy
       refine ⟨cs, h1, fun k u hu => ?_⟩
       have h3 := h2 k u hu
       have hk := get_lt hu
       rw [h1.len] at hk
       rw [List.getElem?_take, if_pos ?_]
       ·exact h3
       ·have : (j + 1) * s.t.sz ≤ n * s.t.sz := Nat.mul_le_mul_right _ (by omega)
        rw [Nat.add_mul] at this
        omega
      ·cases hy
   ·cases h
  ·cases h
 ·cases h

theorem nestRows_rep (hW : WRep cx β ob w) {ok : Bool -> Nat -> Prop} {e : TypeId} {t : Ty} : ∀ (cs : List AV) (vs : List Value) (fl : Bool) (is : List Nat) (xs : List (List t.S)), nestRows ob e t cs = some (fl, is, xs) -> RepL w ok β cs vs →
  vs.length = xs.length ∧ (∀ u ∈ vs, ∀ b, blk1 u = some b -> ∃ i ∈ is, ∃ s v0, ob[i]? = some (.row s) ∧ β[i]? = some v0 ∧ blk v0 b ∧ (fl = true -> s.fl = true)) ∧
  (∀ (j : Nat) (u : Value), vs[j]? = some u -> ∃ ys, xs[j]? = some ys ∧ (t.flat = true -> ∀ fl, OwnEl w ⟨fl, e, t, ys⟩ u)) ∧
  (∀ (i j : Nat) (u v : Value) (b : Nat), vs[i]? = some u -> vs[j]? = some v -> blk1 u = some b -> blk1 v = some b -> i = j)
 |[], vs, fl, is, xs, h, hr => by
  simp only [nestRows, Option.some.injEq, Prod.mk.injEq] at h
  obtain ⟨rfl, rfl, rfl⟩ := h
  have hv : vs = [] := List.eq_nil_of_length_eq_zero (by rw [← hr.1]; rfl)
  subst hv
  exact ⟨rfl, fun u hu => by simp at hu, fun j u hu => by simp at hu, fun i j u v b hu => by simp at hu⟩
 |x :: cs, [], _, _, _, _, hr => by simp [RepL] at hr
 |x :: cs, v :: vs, fl, is, xs, h, hr => by
  have hr' : RepL w ok β cs vs := ⟨by simpa using hr.1, fun i y z hy hz => hr.2 (i + 1) y z (by simpa using hy) (by simpa using hz)⟩
  have h0 := hr.2 0 x v rfl rfl
  simp only [nestRows] at h
  split at h
  ·rename_i fl1 is1 xs1 hrec
   obtain ⟨i1, i2, i3, i4⟩ := nestRows_rep hW cs vs fl1 is1 xs1 hrec hr'
   split at h
   ·rename_i hn
    simp only [Option.some.injEq, Prod.mk.injEq] at h
    obtain ⟨rfl, rfl, rfl⟩ := h
    rw [isNil_eq hn] at h0
    have hv := rep_v h0
    subst hv
    refine ⟨by simp [i1], fun u hu b hb => ?_, fun j u hu => ?_, fun i j u u' b hu hu' hb hb' => ?_⟩
    ·rcases List.mem_cons.1 hu with rfl | hu
     ·cases hb
     ·exact i2 u hu b hb
    ·cases j with
     |zero =>
      simp at hu
      subst hu
      exact ⟨[], rfl, fun _ fl => ⟨[], ownsM_nil _ _ _, fun j y hy => by simp at hy⟩⟩
     |succ j => simpa using i3 j u (by simpa using hu)
    ·cases i with
     |zero =>
      simp at hu
      subst hu
      cases hb
     |succ i => cases j with
      |zero =>
       simp at hu'
       subst hu'
       cases hb'
      |succ j => exact congrArg (· + 1) (i4 i j u u' b (by simpa using hu) (by simpa using hu') hb hb')
   ·split at h
    ·rename_i k s' hap
     split at h
     ·rename_i hc
      split at h
      ·rename_i ys hys
       simp only [Option.some.injEq, Prod.mk.injEq] at h
       obtain ⟨rfl, rfl, rfl⟩ := h
       obtain ⟨hse, hni⟩ := hc
       obtain ⟨s, zs, v0, cells, rfl, hob, hk, hbv, hown, hc⟩ := appTo_rep hW hap h0
       obtain ⟨ht, rfl⟩ := as_eq hys
       simp only at ht hse
       subst ht
       have hni : k ∉ is1 := by simpa using hni
       have cross : ∀ (u : Value) (b : Nat), u ∈ vs -> blk1 u = some b -> blk1 v = some b -> False := fun u b hu hb hb' => by
        obtain ⟨i, hi, s', u0, p1, p2, p3, _⟩ := i2 u hu b hb
        have := hW.sep i k _ _ u0 v0 b p1 hob rfl rfl p2 hk p3 (hbv b ((own_blk1 hown b).2 hb'))
        subst this
        exact hni hi
       refine ⟨by simp [i1], fun u hu b hb => ?_, fun j u hu => ?_, fun i j u u' b hu hu' hb hb' => ?_⟩
       ·rcases List.mem_cons.1 hu with rfl | hu
        ·exact ⟨k, List.mem_cons_self, s, v0, hob, hk, hbv b ((own_blk1 hown b).2 hb), fun h => (Bool.and_eq_true_iff.1 h).2⟩
        ·obtain ⟨i, hi, s', u0, p1, p2, p3, p4⟩ := i2 u hu b hb
         exact ⟨i, List.mem_cons_of_mem _ hi, s', u0, p1, p2, p3, fun h => p4 (Bool.and_eq_true_iff.1 h).1⟩
       ·cases j with
        |zero =>
         simp at hu
         subst hu
         refine ⟨zs, rfl, fun hf fl => ⟨cells, by rw [← hse]; exact hown, fun j y hy => ?_⟩⟩
         obtain ⟨cs', h1, h2⟩ := hc j y hy
         exact ⟨cs', h1.of_flat hf, h2⟩
        |succ j => simpa using i3 j u (by simpa using hu)
       ·cases i with
        |zero =>
         simp at hu
         subst hu
         cases j with
         |zero => rfl
         |succ j => exact (cross u' b (List.mem_of_getElem? (by simpa using hu')) hb' hb).elim
        |succ i => cases j with
         |zero =>
          simp at hu'
          subst hu'
          exact (cross u b (List.mem_of_getElem? (by simpa using hu)) hb hb').elim
         |succ j => exact congrArg (· + 1) (i4 i j u u' b (by simpa using hu) (by simpa using hu') hb hb')
      ·cases h
     ·cases h
    ·cases h
  ·cases h

theorem newNest_res {s : Sq} {e : TypeId} {t : Ty} {xs : List (List t.S)} {fl : Bool} {is : List Nat} {cs : List AV} {vs : List Value} {fr : List AV} (hW : WRep cx β ob w) (hA : ARep w (okB cx β ob) β fr a) {ok : Bool -> Nat -> Prop} (hf : t.flat = true)
  (hn : nestRows ob e t cs = some (fl, is, xs)) (hr : RepL w ok β cs vs) (hmax : vs.length ≤ maxLen) {e0 : TypeId} :
  Res cx (β ++ [.tuple (.slice (some ⟨w.heap.size, 0, none⟩) vs.length vs.length :: vs).toArray]) ⟨fr, goneL ob is ++ [.nst ⟨fl, e0, .sl e t, xs⟩]⟩ (.nst ob.length) a (.slice (some ⟨w.heap.size, 0, none⟩) vs.length vs.length) (w.alloc (.cells vs.toArray e0)) ∧
   Ext 0 β ob w (β ++ [.tuple (.slice (some ⟨w.heap.size, 0, none⟩) vs.length vs.length :: vs).toArray]) (goneL ob is ++ [.nst ⟨fl, e0, .sl e t, xs⟩]) := by
 obtain ⟨h1, h2, h3, h4⟩ := nestRows_rep hW cs vs fl is xs hn hr
 have hsm := Same.alloc w (.cells vs.toArray e0)
 have hold : ∀ u ∈ vs, ∀ b, blk1 u = some b -> ∃ i ∈ is, ∃ s v0, ob[i]? = some (.row s) ∧ β[i]? = some v0 ∧ blk v0 b ∧ b < w.heap.size ∧ (fl = true -> cx.w0.heap.size ≤ b) := fun u hu b hb => by
  obtain ⟨i, hi, s, v0, p1, p2, hbu, p3⟩ := h2 u hu b hb
  obtain ⟨cells, hown, hfr, _⟩ := hW.obj i _ _ p1 p2
  exact ⟨i, hi, s, v0, p1, p2, hbu, own_lt hown hbu, fun h => hfr (p3 h) b hbu⟩
 obtain ⟨m1, m2, m3⟩ := hW.merge (w' := w.alloc (.cells vs.toArray e0)) (is := is) (o := .nst ⟨fl, e0, .sl e t, xs⟩) (x := .tuple (.slice (some ⟨w.heap.size, 0, none⟩) vs.length vs.length :: vs).toArray) rfl (fun b hb hx => by
   obtain ⟨u, hu, hb1⟩ := blk_tuple.1 hx
   rcases List.mem_cons.1 hu with rfl | hu
   ·have : w.heap.size = b := by simpa [blk1] using hb1
    omega
   ·obtain ⟨i, hi, s, u0, p1, p2, p3, _⟩ := hold u hu b hb1
    exact ⟨i, hi, _, u0, p1, rfl, p2, p3⟩) hsm.os hsm.tape hsm.out hsm.size (fun b hb _ => hsm.blk b hb) (fun hm => by
   refine ⟨_, vs, rfl, h1, rfl, .inr ⟨_, 0, _, _, rfl, .of (heap_alloc_new w _), Nat.le_refl _, hmax, by simp, fun j u hu => by simpa using hu⟩, fun j u hu => ?_, fun hfl b hb => ?_, fun i j u v b hu hv hb hb' => ?_⟩
   ·obtain ⟨ys, h5, h6⟩ := h3 j u hu
    refine ⟨⟨fl, e, t, xs.getD j []⟩, rfl, hf, ?_⟩
    have hgd : xs.getD j [] = ys := by rw [List.getD_eq_getElem?_getD, h5]; rfl
    rw [hgd]
    refine (h6 hf fl).move hf fun b hb => hsm.blk b ?_
    obtain ⟨cells, hown, _⟩ := h6 hf fl
    exact own_lt hown hb
   ·obtain ⟨u, hu, hb1⟩ := blk_tuple.1 hb
    rcases List.mem_cons.1 hu with rfl | hu
    ·have : w.heap.size = b := by simpa [blk1] using hb1
     have := hW.hs
     omega
    ·obtain ⟨i, hi, s, u0, p1, p2, p3, _, p4⟩ := hold u hu b hb1
     exact p4 hfl
   ·have fresh : ∀ (k : Nat) (z : Value), vs[k]? = some z -> blk1 z = some w.heap.size -> False := fun k z hz hb => by
     obtain ⟨_, _, _, _, _, _, _, hlt, _⟩ := hold z (List.mem_of_getElem? hz) _ hb
     omega
    cases i with
    |zero =>
     simp at hu
     subst hu
     have e1 : w.heap.size = b := by simpa [blk1] using hb
     subst e1
     cases j with
     |zero => rfl
     |succ j => exact (fresh j v (by simpa using hv) hb').elim
    |succ i => cases j with
     |zero =>
      simp at hv
      subst hv
      have e1 : w.heap.size = b := by simpa [blk1] using hb'
      subst e1
      exact (fresh i u (by simpa using hu) hb).elim
     |succ j => exact congrArg (· + 1) (h4 i j u v b (by simpa using hu) (by simpa using hv) hb hb'))
 refine ⟨⟨m1, hA.mono m2 fun _ _ h => get_snoc h, .nst _ _ vs ?_⟩, m3⟩
 rw [← hW.len]
 simp

theorem nest_post {e0 : TypeId} {t : Ty} {cs : List AV} {vs : List Value} {n : Nat} {q : Bool × List Nat × List t.S} (hq : nestOf σ.ob t cs = some q) {ok : Bool -> Nat -> Prop} (h2 : RepL w ok β cs vs) (hvl : vs.length = n * t.sz) (hn : n ≤ 16777216) (g : Good cx β σ a w) :
  n * t.sz ≤ 16777216 ∧ Res cx (β ++ [.tuple (.slice (some ⟨w.heap.size, 0, none⟩) n n :: vs).toArray]) ⟨σ.fr, goneL σ.ob q.2.1 ++ [.nst ⟨q.1, e0, t, q.2.2⟩]⟩ (.nst σ.ob.length) a (.slice (some ⟨w.heap.size, 0, none⟩) n n) (w.alloc (.cells vs.toArray e0)) ∧
   Ext 0 β σ.ob w (β ++ [.tuple (.slice (some ⟨w.heap.size, 0, none⟩) n n :: vs).toArray]) (goneL σ.ob q.2.1 ++ [.nst ⟨q.1, e0, t, q.2.2⟩]) := by
 cases t with
 |sl e t' =>
  have hvl : vs.length = n := by
   rw [hvl]
   exact Nat.mul_one n
  subst hvl
  have hq' : (if t'.flat then nestRows σ.ob e t' cs else none) = some q := hq
  split at hq'
  ·rename_i hf
   obtain ⟨fl, is, xs⟩ := q
   have h := newNest_res (s := ⟨true, 0, .bool, []⟩) (e0 := e0) g.W g.A hf hq' h2 (by unfold maxLen; omega)
   exact ⟨by show vs.length * 1 ≤ _; omega, h⟩
  ·cases hq'
 |_ => cases hq

theorem run_buildSlice_any {t e : TypeId} {n : Nat} {parts : Array (Nat × Value)} {cells : Array Value} {ie : TypeInfo} {z : Value} (hu : P.underlying t = some (.slice e)) (hie : P.info? e = some ie) (hz : ie.zero = some z) (hsmall : n * ie.size ≤ 16777216)
  (h : Instr.fill (fun i => some (i * ie.size, ie.size)) (madeCells z.cells (n * ie.size)) parts.toList = some cells) (w : World) :
  (Instr.buildSlice t n parts).run P w = .ok (.slice (some ⟨w.heap.size, 0, none⟩) n n) (w.alloc (.cells cells e)) := by
 by_cases h0 : n * ie.size = 0
 ·have e1 : madeCells z.cells (n * ie.size) = #[] := by rw [h0]; simp [madeCells, Array.range_zero']
  rw [e1] at h
  simp [Instr.buildSlice, run_underlying hu, sizeOf, typeInfo, hie, h0, newRow, Array.range_zero', h]
 ·exact run_buildSlice w t e n parts cells ie z hu hie hz (by simp; omega) h0 h

theorem wp_buildSlice' {t : TypeId} {n : Nat} {parts : Array (Nat × Operand)} (ho : o.op = .buildSlice t n parts) (g : Good cx β σ a w) (h : evOp P Γ o σ K = some r) (lvl : Nat) : Goal P cx K r o lvl β σ a w Q := by
 simp only [evOp, ho] at h
 split at h
 ·rename_i i ps hr hps
  obtain ⟨ie, z, hut, hie, hsz, hby, hz, hzo, hb, _⟩ := tyOf_row hr
  have hp := litParts_rep g.W _ _ _ hps (by simp) (parts_rep g parts)
  split at h
  ·rename_i zs hzs
   have hzs' : zs = (List.replicate n (z.cells.toList.map AV.v)).flatten := by
    unfold zerosA at hzs
    rw [hie] at hzs
    simp only [hz] at hzs
    exact (Option.some.inj hzs).symm
   subst hzs'
   split at h
   ·rename_i cs hcs
    have hzl : z.cells.size = i.t.sz := by simpa using (zero_cel (w := w) (ok := okB cx β σ.ob true) i.t z.cells.toList hzo).len
    obtain ⟨vs, h1, h2⟩ := fill_rep _ _ _ _ _ hp (RepL.flat z.cells.toList n) hcs
    have hfl : ∀ (qs : List (Nat × Value)) (c0 c1 : Array Value), Instr.fill (fun j => some (j * i.t.sz, i.t.sz)) c0 qs = some c1 -> c1.size = c0.size := by
     intro qs
     induction qs with
     |nil =>
      intro c0 c1 h
      simp only [Instr.fill] at h
      rw [Option.some.inj h]
     |cons q qs ih =>
      intro c0 c1 h
      obtain ⟨qi, qv⟩ := q
      simp only [Instr.fill] at h
      split at h
      ·cases h
      ·rename_i hc
       rw [ih _ _ h]
       simp only [Bool.or_eq_true, decide_eq_true_eq, not_or] at hc
       have hfit : qi * i.t.sz + 0 + qv.cells.toList.length ≤ c0.size := by simp; omega
       have := foldl_set (qi * i.t.sz) qv.cells.toList 0 c0 hfit
       rw [← Array.foldl_toList, Array.toList_zipIdx, this]
       simp at hfit
       simp
       omega
    have hvl : vs.length = n * i.t.sz := by
     have := hfl _ _ _ h1
     simp at this
     rw [this, hzl]
    have hrunB : n * i.t.sz ≤ 16777216 -> (Instr.buildSlice t n (parts.map fun (i, x) => (i, a.eval x))).run P w = .ok (.slice (some ⟨w.heap.size, 0, none⟩) n n) (w.alloc (.cells vs.toArray i.e)) := by
     intro hle
     have hrun := run_buildSlice_any (n := n) (parts := parts.map fun (i, x) => (i, a.eval x)) (cells := vs.toArray) hut hie hz (by rw [hsz]; exact hle) (by
       rw [hsz]
       rw [← h1]
       congr 1
       rw [← hzl]
       exact Array.toList_inj.1 (by rw [made_flat])) w
     exact hrun
    split at h
    ·rename_i q hq
     split at h
     ·rename_i hle
      obtain ⟨hql, hle⟩ := hle
      obtain ⟨hle', hres, hext⟩ := nest_post (e0 := i.e) hq h2 hvl hle g
      have hrun := hrunB hle'
      exact wp_value (by simp only [execOp, ho, Sem.run_bind, hrun, Result.andThen_ok, Sem.run_pure]) ⟨_, _, _, _, h, rfl, hres, .of_same (Same.alloc w _) _, hext.mono (Nat.zero_le _)⟩
     ·cases h
    rename_i hnn
    obtain ⟨f1, f2⟩ := freezeL_good cs σ.ob g.W
    have h2' : RepL w (okB cx β (freezeL σ.ob cs)) β cs vs := h2.mono (fun fl b hok hb => ⟨okB_freeze g.W hok, rfl⟩) fun _ _ h => h
    split at h
    ·rename_i q hq
     split at h
     ·rename_i hle
      obtain ⟨h3, h4⟩ := chunk_rep f1 i.t n cs vs q.1 q.2 hq h2' hvl
      have hrun := hrunB hle
      have hA' : ARep w (okB cx β (freezeL σ.ob cs)) β σ.fr a := g.A.mono (fun fl b hok hb => ⟨okB_freeze g.W hok, rfl⟩) fun _ _ h => h
      have hnm : n ≤ maxLen := by
       have := i.t.sz_pos
       have : n * 1 ≤ n * i.t.sz := Nat.mul_le_mul_left n this
       unfold maxLen
       omega
      have hres := newRow_res (a := a) (s := ⟨q.1, i.e, i.t, q.2⟩) (n := n) (cap := n) (cur := vs.toArray) f1 hA' h3.symm (Nat.le_refl _) hnm (by simpa using hvl) (by
       intro j y hy
       obtain ⟨us, h5, h6⟩ := h4 j y hy
       exact ⟨us, h5, by simpa using h6⟩)
      exact wp_value (by simp only [execOp, ho, Sem.run_bind, hrun, Result.andThen_ok, Sem.run_pure]) ⟨_, _, _, _, h, rfl, hres, .of_same (Same.alloc w _) _, (Ext.trans ⟨fun _ _ h => h, fun l _ b _ ht => touch_freeze g.W ht⟩ (Ext.snoc f1.len (fun _ b hb => by simp [blk, blk1] at hb; omega) _))⟩
     ·cases h
    ·cases h
   ·cases h
  ·cases h
 ·cases h

end Go.Ev
