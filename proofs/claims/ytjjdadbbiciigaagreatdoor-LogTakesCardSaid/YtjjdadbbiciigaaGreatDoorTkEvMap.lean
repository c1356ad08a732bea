/- Each operation of the abstract machine is one of the machine's: maps; parts of nests. -/
import Derived.Test.YtjjdadbbiciigaaGreatDoorTkEvOps7
import GoSem.Instr.MapUpdate
namespace Go.Ev
set_option linter.unusedVariables false
set_option linter.unusedSimpArgs false
set_option linter.unusedSectionVars false
variable [tG : TabG] [lG : LoopG] [dG : DfG]

variable {P : Program} {R : Type} {cx : Cx} {β β' : List Value} {ob ob' : List O} {w w' : World} {σ σ' : St} {a a' : Act}
variable {o : Oper} {K : AV -> St -> Option R} {r : R} {Q : Exit -> Act -> World -> Prop} {Γ : FuncId -> Option Sum}

theorem mapI_eq (w : World) {t : TypeId} {mi : MapI} (h : mapI P t = some mi) : ∃ (k e : TypeId) (i : TypeInfo) (z : Value), P.underlying t = some (.map k e) ∧ cmpT P k = some mi.kt ∧ P.info? e = some i ∧ i.zero = some z ∧ mi.vt.flat = true ∧ z = mi.vt.val mi.vt.dflt := by
 unfold mapI at h
 split at h
 ·rename_i k e hu
  split at h
  ·rename_i kt vt i ag hk hv hi ha
   split at h
   ·rename_i z hz
    split at h
    ·rename_i hc
     obtain rfl := Option.some.inj h
     simp only [Bool.and_eq_true, beq_iff_eq] at hc
     obtain ⟨⟨⟨h1, h2⟩, h3⟩, h4⟩ := hc
     refine ⟨k, e, i, z, hu, hk, hi, hz, h1, ?_⟩
     have hcel := zero_cel (w := w) (ok := fun _ => True) vt _ h2
     have hcs := cs_cel vt _ _ h1 hcel
     cases hp : vt.isPr with
     |true =>
      rw [hp] at h4
      cases z <;> simp [isAggV] at h4
      rename_i cs
      rw [val_pr hp, ← hcs]
      simp [Value.cells]
     |false =>
      rw [hp] at h4
      obtain ⟨v, hv⟩ := cs_one vt vt.dflt h1 hp
      rw [hv] at hcs
      have hzc : z.cells = #[z] := by cases z <;> first | rfl | (simp [isAggV] at h4; done)
      rw [hzc] at hcs
      rw [val_one hp hv]
      simpa using hcs
    ·cases h
   ·cases h
  ·cases h
 ·cases h

theorem seenMap_eq {mi : MapI} {x : AV} {q : Nat × ((kt : Ty) × (vt : Ty) × List (kt.S × vt.S))} (h : seenMap ob mi x = some q) : ∃ l, x = .mp q.1 ∧ q.2 = ⟨mi.kt, mi.vt, l⟩ ∧ ob[q.1]? = some (.map mi.kt mi.vt l) := by
 unfold seenMap at h
 split at h
 ·rename_i i
  split at h
  ·rename_i kt vt l ho
   split at h
   ·rename_i hc
    obtain ⟨rfl, rfl⟩ := hc
    obtain rfl := Option.some.inj h
    exact ⟨l, rfl, rfl, ho⟩
   ·cases h
  ·cases h
 ·cases h

theorem mp_rep {ok : Bool -> Nat -> Prop} {i : Nat} {v : Value} (h : RepV w ok β (.mp i) v) : ∃ g, v = .map (some g) ∧ β[i]? = some (.map (some g)) := by
 cases h with
 |mp _ g h => exact ⟨g, rfl, h⟩

theorem reiV_rep {ok : Bool -> Nat -> Prop} (t : Ty) (x : t.S) (hf : t.flat = true) : RepV w ok β (reiV t x) (t.val x) := by
 have h := rei_rep (β := β) (ok := ok) (fl := true) (cel_cs (w := w) (ok := ok true) t x hf)
 unfold reiV Ty.val
 cases hp : t.isPr with
 |true => exact .agg _ _ h.1 h.2
 |false =>
  obtain ⟨v, hv⟩ := cs_one t x hf hp
  rw [hv] at h ⊢
  have hl : (rei true t x).length = 1 := h.1
  match hr : rei true t x, hl with
  |[y], _ =>
   rw [hr] at h
   exact h.2 0 y v rfl rfl

theorem wp_makeMap {t : TypeId} {rs : Option Operand} (ho : o.op = .makeMap t rs) (g : Good cx β σ a w) (h : evOp P Γ o σ K = some r) (lvl : Nat) : Goal P cx K r o lvl β σ a w Q := by
 simp only [evOp, ho] at h
 split at h
 ·rename_i mi hmi
  have hrun : (Instr.makeMap t none).run P w = .ok (.map (some w.heap.size)) (w.alloc (.map #[] 0)) := rfl
  have hnew : (O.map mi.kt mi.vt []).live = true -> ∀ b, blk (.map (some w.heap.size)) b -> w.heap.size ≤ b := fun _ b hb => by
   simp [blk, blk1] at hb
   omega
  have hsm := Same.alloc w (.map #[] 0)
  have hW := g.W.new hsm hnew ⟨w.heap.size, #[], 0, rfl, heap_alloc_new w _, rfl⟩
  refine wp_value (v := .map (some w.heap.size)) (by simp only [execOp, ho, Option.map_none, Sem.run_bind, hrun, Result.andThen_ok, Sem.run_pure]) ⟨_, _, _, _, h, rfl, ⟨hW, g.A.mono (fun fl b hok hb => ⟨ok_snoc g.W.len hnew hok hb, hsm.blk b hb⟩) fun _ _ h => get_snoc h, .mp _ _ ?_⟩, .of_same hsm _, Ext.snoc g.W.len hnew _⟩
  show (β ++ [_])[σ.ob.length]? = some _
  rw [← g.W.len]
  simp
 ·cases h

theorem mgetD_eq (kt vt : Ty) (l : List (kt.S × vt.S)) (k : kt.S) : mgetD kt vt l k = ((mpos kt vt k l 0).map (·.2)).getD vt.dflt ∧ mhas kt vt l k = (mpos kt vt k l 0).isSome := by
 unfold mgetD mhas
 rw [← mpos_find kt vt k l 0]
 cases mpos kt vt k l 0 <;> simp

theorem ld_lookup {t : TypeId} {x i : Operand} {ok : Bool} (ho : o.op = .lookup t x i ok) (g : Good cx β σ a w) (h : evOp P Γ o σ K = some r) : Ld P cx K r o β σ a w := by
 have hx := g.ev x
 have hi := g.ev i
 generalize hv : a.eval x = v at hx
 generalize hu : a.eval i = u at hi
 simp only [evOp, ho] at h
 split at h
 ·rename_i mi hmi
  obtain ⟨kT, eT, inf, z, hut, hk, hinf, hz, hvf, hzv⟩ := mapI_eq w hmi
  split at h
  ·rename_i ai kt vt l hs
   obtain ⟨l', hxe, he, hob⟩ := seenMap_eq hs
   simp only [Sigma.mk.injEq] at he
   obtain ⟨rfl, he⟩ := he
   have he := eq_of_heq he
   simp only [Sigma.mk.injEq] at he
   obtain ⟨rfl, he⟩ := he
   obtain rfl := eq_of_heq he
   simp only at hob hxe
   split at h
   ·rename_i k hfk
    rw [hxe] at hx
    obtain ⟨gg, rfl, hb⟩ := mp_rep hx
    have hu' := flatOf_val hfk hi
    subst hu'
    obtain ⟨g2, es, clock, hp, hheap, hes⟩ := g.W.obj ai _ _ hob hb
    obtain rfl : gg = g2 := by simpa using hp
    have hzr : ∀ w : World, (zeroValue eT).run P w = .ok z w := fun w => by simp [zeroValue, typeInfo, hinf, hz]
    obtain ⟨q1, q2⟩ := mgetD_eq mi.kt mi.vt l k
    have hrun : ∀ w1 : World, w1.heap[gg]? = some (.map es clock) -> (Instr.lookup t (.map (some gg)) (mi.kt.val k) ok).run P w1 = .ok (if ok then .tuple #[mi.vt.val (mgetD mi.kt mi.vt l k), .bool (mhas mi.kt mi.vt l k)] else mi.vt.val (mgetD mi.kt mi.vt l k)) w1 := fun w1 hw1 => by
     have hf := run_find hk w1 mi.vt k es.toList l hes
     have hc := run_check hk w1 k es.isEmpty
     rw [q1, q2]
     cases hm : mpos mi.kt mi.vt k l 0 with
     |none =>
      rw [hm] at hf
      simp [Instr.lookup, run_underlying hut, MapKept.run_getObj_map hw1, hc, hf, hzr, hzv]
     |some p =>
      rw [hm] at hf
      simp [Instr.lookup, run_underlying hut, MapKept.run_getObj_map hw1, hc, hf]
    have fin : ∀ (X : AV) (V : Value), (∀ w1 : World, w1.heap[gg]? = some (.map es clock) -> (Instr.lookup t (.map (some gg)) (mi.kt.val k) ok).run P w1 = .ok V w1) -> K X σ = some r -> RepV w (okB cx β σ.ob) β X V -> Ld P cx K r o β σ a w := fun X V h1 h2 h3 => by
     have hx1 : ∀ w1 : World, w1.heap[gg]? = some (.map es clock) -> (execOp a.eval o).run P w1 = .ok (.value V) w1 := fun w1 hw1 => by
      simp only [execOp, ho, hv, hu, Sem.run_bind, h1 w1 hw1, Result.andThen_ok, Sem.run_pure]
     refine ⟨X, V, ⟨h2, h3⟩, hx1 w hheap, fun lvl hq w' hw' => hx1 w' ?_⟩
     rw [hw' gg (Array.getElem?_eq_some_iff.1 hheap).1 fun ht => ?_, hheap]
     simp [quietOp, ho] at hq
     match lvl, hq, ht with
     |1, _, ⟨k, o1, y, k1, ks, k2, k3⟩ =>
      have := g.W.sep ai k _ _ _ _ gg hob k1 rfl (O.live_of_rowish ks) hb k2 rfl k3
      subst this
      rw [hob] at k1
      obtain rfl := Option.some.inj k1
      cases ks
    cases ok with
    |true => exact fin _ _ (fun w1 hw1 => by simpa using hrun w1 hw1) h (rep_pair (reiV_rep _ _ hvf) (.v _))
    |false => exact fin _ _ (fun w1 hw1 => by simpa using hrun w1 hw1) h (reiV_rep _ _ hvf)
   ·cases h
  ·cases h
 ·cases h

theorem wp_lookup {t : TypeId} {x i : Operand} {ok : Bool} (ho : o.op = .lookup t x i ok) (g : Good cx β σ a w) (h : evOp P Γ o σ K = some r) (lvl : Nat) : Goal P cx K r o lvl β σ a w Q := by
 obtain ⟨x, v, ⟨h1, h2⟩, h3, _⟩ := ld_lookup ho g h
 exact wp_value h3 (Post.same g h1 h2)

theorem map_set {α γ : Type} (f : α -> γ) (l : List α) (i : Nat) (x : α) : (l.set i x).map f = (l.map f).set i (f x) := by
 apply List.ext_getElem?
 intro k
 simp only [List.getElem?_map, List.getElem?_set, List.length_map]
 split
 ·split <;> simp
 ·rfl

theorem put_ok {t : TypeId} {x k y : AV} {vx vk vy : Value} (g : Good cx β σ a w) (hx : RepV w (okB cx β σ.ob) β x vx) (hk : RepV w (okB cx β σ.ob) β k vk) (hy : RepV w (okB cx β σ.ob) β y vy) (h : evPut P t x k y σ K = some r) (lvl : Nat) :
  ∃ w1 σ', (Instr.mapUpdate t vx vk vy).run P w = .ok () w1 ∧ K (.v undef) σ' = some r ∧ Res cx β σ' (.v undef) a undef w1 ∧ Eff (lvl + 2) β σ.ob w w1 ∧ Ext (lvl + 2) β σ.ob w β σ'.ob := by
 unfold evPut at h
 split at h
 ·rename_i mi hmi
  obtain ⟨kT, eT, inf, z, hut, hkt, hinf, hz, hvf, hzv⟩ := mapI_eq w hmi
  have hkf := cmpT_flat hkt
  split at h
  ·rename_i ai kt vt l hs
   obtain ⟨l', hxe, he, hob⟩ := seenMap_eq hs
   simp only [Sigma.mk.injEq] at he
   obtain ⟨rfl, he⟩ := he
   have he := eq_of_heq he
   simp only [Sigma.mk.injEq] at he
   obtain ⟨rfl, he⟩ := he
   obtain rfl := eq_of_heq he
   simp only at hob hxe
   split at h
   ·rename_i kk vv hfk hfv
    rw [hxe] at hx
    obtain ⟨gg, rfl, hb⟩ := mp_rep hx
    have hk' := flatOf_val hfk hk
    have hy' := flatOf_val hfv hy
    subst hk' hy'
    obtain ⟨g2, es, clock, hp, hheap, hes⟩ := g.W.obj ai _ _ hob hb
    obtain rfl : gg = g2 := by simpa using hp
    have hlen : es.toList.length = l.length := by
     have := congrArg List.length hes
     simpa using this
    have hf := run_find hkt w mi.vt kk es.toList l hes
    have hc := run_check hkt w kk false
    have hmp := mpos_some mi.kt mi.vt kk vv l 0
    have main : ∃ es' clock', (Instr.mapUpdate t (.map (some gg)) (mi.kt.val kk) (mi.vt.val vv)).run P w = .ok () { w with heap := w.heap.setIfInBounds gg (.map es' clock') } ∧
      es'.toList.map (fun e => (e.key, e.val)) = (mput mi.kt mi.vt kk vv l).map (fun p => (mi.kt.val p.1, mi.vt.val p.2)) := by
     cases hm : mpos mi.kt mi.vt kk l 0 with
     |none =>
      rw [hm] at hf hmp
      refine ⟨es.push ⟨mi.kt.val kk, mi.vt.val vv, clock⟩, clock + 1, ?_, ?_⟩
      ·simp [Instr.mapUpdate, run_underlying hut, MapKept.run_getObj_map hheap, hc, hf, MapKept.run_setObj_map _ hheap]
      ·simp only at hmp
       rw [hmp, Array.toList_push, List.map_append, List.map_append, hes]
       rfl
     |some p =>
      rw [hm] at hf hmp
      obtain ⟨j, h1, h2, ⟨u0, h3⟩, h4⟩ := hmp
      rw [Nat.zero_add] at h1
      have hj : j < es.toList.length := by rw [hlen]; exact h2
      have hkey : es.toList[j].key = mi.kt.val kk := by
       have := congrArg (fun m => m[j]?) hes
       simp only [List.getElem?_map, List.getElem?_eq_getElem hj, h3, Option.map_some] at this
       exact (Prod.mk.inj (Option.some.inj this)).1
      have hj' : j < es.size := by simpa using hj
      have hkey' : ((es[p.1]?).map (·.key)).getD (mi.kt.val kk) = mi.kt.val kk := by
       rw [h1, Array.getElem?_eq_getElem hj']
       simpa using hkey
      refine ⟨es.modify j (fun e => { e with key := mi.kt.val kk, val := mi.vt.val vv }), clock, ?_, ?_⟩
      ·have hstay := run_stays (P := P) hkf kk w
       simp only [Option.map_some] at hf
       rw [h1] at hkey' hf
       simp only [Instr.mapUpdate, Sem.run_bind, run_underlying hut, MapKept.run_getObj_map hheap, hc, hf, hkey', hstay, Result.andThen_ok, MapKept.run_setObj_map _ hheap]
      ·rw [h4, map_set, ← hes, Array.toList_modify]
       apply List.ext_getElem?
       intro q
       simp only [List.getElem?_map, List.getElem?_modify, List.getElem?_set, List.length_map]
       by_cases hq : j = q
       ·subst hq
        simp [hj']
       ·simp [hq]
    obtain ⟨es', clock', hrun, hes'⟩ := main
    have hsame : ∀ b, b ≠ gg -> ({ w with heap := w.heap.setIfInBounds gg (.map es' clock') } : World).heap[b]? = w.heap[b]? := fun b hne => Array.getElem?_setIfInBounds_ne (Ne.symm hne)
    have hlt : gg < w.heap.size := (Array.getElem?_eq_some_iff.1 hheap).1
    have hlive : LiveB β σ.ob gg := ⟨ai, _, _, hob, rfl, hb, rfl⟩
    have hset : ∀ b, LiveB β (σ.ob.set ai (.map mi.kt mi.vt (mput mi.kt mi.vt kk vv l))) b -> LiveB β σ.ob b := fun b hb' => live_set_sub hb (fun b _ hb2 => ⟨ai, _, _, hob, rfl, hb, hb2⟩) hb'
    have hW' := g.W.write (w' := { w with heap := w.heap.setIfInBounds gg (.map es' clock') }) (o' := .map mi.kt mi.vt (mput mi.kt mi.vt kk vv l)) hob hb rfl rfl rfl rfl (by simp) (fun b _ hne => hsame b fun e => hne (by subst e; rfl)) rfl
     ⟨gg, es', clock', rfl, by simp [hlt], hes'⟩
    refine ⟨_, _, hrun, h, ⟨hW', g.A.mono (fun fl b hok hb => ⟨okB_of hok (hset b), hsame b fun e => hok.1 (by subst e; exact hlive)⟩) fun _ _ h => h, .v _⟩, ⟨by simp, fun b _ ht => hsame b fun e => ht (by subst e; exact hlive)⟩, ⟨fun _ _ h => h, fun l hl b hb ht => ?_⟩⟩
    obtain ⟨l, rfl⟩ : ∃ m, l = m + 2 := ⟨l - 2, by omega⟩
    exact hset b ht
   ·cases h
  ·cases h
 ·cases h

theorem wp_mapUpdate {t : TypeId} {m k x : Operand} (ho : o.op = .mapUpdate t m k x) (g : Good cx β σ a w) (h : evOp P Γ o σ K = some r) (lvl : Nat) : Goal P cx K r o (lvl + 2) β σ a w Q := by
 simp only [evOp, ho] at h
 obtain ⟨w1, σ', h1, h2, h3, h4, h5⟩ := put_ok g (g.ev m) (g.ev k) (g.ev x) h lvl
 unfold Goal Oper.wp
 simp only [execOp, ho, Sem.run_bind, h1, Result.andThen_ok, Sem.run_pure]
 exact ⟨_, _, _, _, h2, rfl, h3, h4, h5⟩

theorem wp_insert {t : TypeId} {m k x : Operand} (ho : o.op = .insert t m k x) (g : Good cx β σ a w) (h : evOp P Γ o σ K = some r) (lvl : Nat) : Goal P cx K r o (lvl + 2) β σ a w Q := by
 simp only [evOp, ho] at h
 obtain ⟨w1, σ', h1, h2, h3, h4, h5⟩ := put_ok g (g.ev m) (g.ev k) (g.ev x) h lvl
 unfold Goal Oper.wp
 simp only [execOp, ho, Sem.run_bind, h1, Result.andThen_ok, Sem.run_pure]
 exact ⟨_, _, _, _, h2, rfl, h3, h4, h5⟩

/-! ### Parts of nests -/

theorem Inner.drop {fl : Bool} {e : TypeId} {t : Ty} {xs : List t.S} {vs : List Value} (h : Inner w ⟨fl, e, t, xs⟩ vs) (n : Nat) : Inner w ⟨fl, e, t, xs.drop n⟩ (vs.drop n) := by
 intro j u hj
 rw [List.getElem?_drop] at hj
 obtain ⟨q, h1, h2, h3⟩ := h _ u hj
 cases t with
 |sl e' t' =>
  simp only [Sq.inn, Option.some.injEq] at h1
  subst h1
  refine ⟨_, rfl, h2, ?_⟩
  have e : (xs.drop n).getD j [] = xs.getD (n + j) [] := by
   rw [List.getD_eq_getElem?_getD, List.getD_eq_getElem?_getD, List.getElem?_drop]
  simp only [e]
  exact h3
 |_ => cases h1

theorem wp_sliceN {t : TypeId} {x : Operand} {lo hi mx : Option Operand} (ho : o.op = .slice t x lo hi mx) (g : Good cx β σ a w) {ai : Nat} (hn : σ.ev x = .nst ai) (h : evOp P Γ o σ K = some r) (lvl : Nat) : Goal P cx K r o lvl β σ a w Q := by
 have hx := g.ev x
 generalize hv : a.eval x = v at hx
 simp only [evOp, ho, hn] at h
 rw [hn] at hx
 split at h
 ·cases h
 split at h
 ·rename_i l h' hl hh
  split at h
  ·rename_i he
   cases he
  ·rename_i e hu
   split at h
   ·rename_i ri hri
    obtain ⟨ie, z, hut, hie, hsz, _⟩ := tyOf_row hri
    obtain rfl : e = ri.e := by
     rw [hu] at hut
     simpa using hut
    have hsz' : sizeT P ri.e = some ri.t.sz := by simp [sizeT, hie, hsz]
    rw [if_neg (by simp [isNil])] at h
    simp only at h
    split at h
    ·rename_i s hob
     split at h
     ·rename_i hc
      obtain ⟨hst, hs1, hhn⟩ := hc
      subst hhn
      have hhi := isIntO_none hh
      have hhi : hi = none := by
       cases hi with
       |none => rfl
       |some q => cases hhi
      subst hhi
      obtain ⟨i, j, hK, hij, hjm, k1, k2, k3, k4⟩ := cut_ok (Nat.le_refl _) h
      have hj : j = s.xs.length := k3 rfl
      subst hj
      cases hx with
      |nst _ _ vs hb =>
       obtain ⟨y1, vs1, e1, hl1, _, ho1, hi1, hf1, hd1⟩ := g.W.obj ai _ _ hob hb
       have e1 := List.cons.inj (by simpa using e1 : v :: vs = y1 :: vs1)
       obtain ⟨rfl, rfl⟩ := e1
       have hd1 : Dist (v :: vs) := hd1
       have m1 : lo.map a.eval = none -> i = 0 := fun h0 => by
        cases lo with
        |none => exact k1 (by simpa [isIntO] using hl.symm)
        |some q => cases h0
       have m2 : ∀ y, lo.map a.eval = some y -> ∃ k, y = .int k (i : Int) := fun y hy => by
        cases lo with
        |none => cases hy
        |some q =>
         cases l with
         |none =>
          have := isIntO_none hl
          cases this
         |some z =>
          obtain ⟨k, hk⟩ := isIntO_some hl
          have hq := g.ev q
          simp at hk hy
          rw [hk] at hq
          rw [rep_v hq] at hy
          rw [← k2 z rfl]
          exact ⟨k, hy.symm⟩
       -- the value
       have hval : ∃ v', (execOp a.eval o).run P w = .ok (.value v') w ∧ ownsOff w s.e v' (vs.drop i) ∧ (∀ b, blk1 v' = some b -> blk1 v = some b) := by
        have run : ∀ {A : Option Addr} {n c : Nat}, v = .slice A n c -> i ≤ n -> n ≤ c -> (execOp a.eval o).run P w = .ok (.value (.slice (if c = i then A else A.map (·.add (i * ri.t.sz))) (n - i) (c - i))) w := by
         intro A n c e h1 h2
         subst e
         simp [execOp, ho, hv, Instr.sliceAt, Instr.slice, run_underlying hu, run_bounds (P := P) (b := true) (n := n) (m := c) (l := lo.map a.eval) (h := none) h1 h2 m1 m2 (fun _ => rfl) (fun _ h => by cases h), run_sizeT hsz']
        rcases ho1 with ⟨rfl, hnil⟩ | ⟨gg, off, cap, cur, rfl, hg, hcap, hcm, hcs, hce⟩
        ·have hi0 : i = 0 := by
          rw [hnil] at hl1
          simp at hl1
          omega
         subst hi0
         have := run rfl (Nat.le_refl _) (Nat.le_refl _)
         refine ⟨.slice none 0 0, by simpa using this, .inl ⟨rfl, by rw [hnil]; rfl⟩, fun b h => h⟩
        ·have h1 : i ≤ vs.length := by rw [hl1]; exact hij
         have hrun := run rfl h1 hcap
         have hz1 : ri.t.sz = 1 := by rw [← hst]; exact hs1
         by_cases hci : cap = i
         ·rw [if_pos hci] at hrun
          refine ⟨_, hrun, .inr ⟨gg, off, cap - i, cur, by rw [List.length_drop], hg, by rw [List.length_drop]; omega, by omega, by omega, fun j u hu => ?_⟩, fun b h => h⟩
          have := get_lt hu
          rw [List.length_drop] at this
          omega
         ·rw [if_neg hci] at hrun
          simp only [Option.map_some, add_lit, hz1, Nat.mul_one] at hrun
          refine ⟨_, hrun, .inr ⟨gg, off + i, cap - i, cur, by rw [List.length_drop], hg, by rw [List.length_drop]; omega, by omega, by omega, fun j u hu => ?_⟩, fun b h => h⟩
          rw [List.getElem?_drop] at hu
          rw [← hce _ u hu]
          congr 1
          omega
       obtain ⟨v', hrun, hoff, hvb⟩ := hval
       have hsub : ∀ u ∈ v' :: vs.drop i, ∀ b, blk1 u = some b -> blk (.tuple (v :: vs).toArray) b := fun u hu b hb => by
        rcases List.mem_cons.1 hu with rfl | hu
        ·exact blk_tuple.2 ⟨v, List.mem_cons_self, hvb b hb⟩
        ·exact blk_tuple.2 ⟨u, List.mem_cons_of_mem _ (List.mem_of_mem_drop hu), hb⟩
       obtain ⟨q1, q2, q3⟩ := g.W.merge (w' := w) (is := [ai]) (o := .nst ⟨s.fl, s.e, s.t, s.xs.drop i⟩) (x := .tuple (v' :: vs.drop i).toArray) rfl (fun b hb hx => by
         obtain ⟨u, hu, hbu⟩ := blk_tuple.1 hx
         exact ⟨ai, by simp, _, _, hob, rfl, ‹β[ai]? = _›, hsub u hu b hbu⟩) rfl rfl rfl (Nat.le_refl _) (fun _ _ _ => rfl) (fun hm => by
         refine ⟨v', vs.drop i, rfl, by rw [List.length_drop, hl1]; simp, hs1, hoff, hi1.drop i, fun hfl b hb => ?_, ?_⟩
         ·obtain ⟨u, hu, hbu⟩ := blk_tuple.1 hb
          exact hf1 hfl b (hsub u hu b hbu)
         ·refine Dist.cons (fun p q u z b hu hz hbu hbz => ?_) fun u hu b hbu hb1 => hd1.head u (List.mem_of_mem_drop hu) b hbu (hvb b hb1)
          rw [List.getElem?_drop] at hu hz
          have := hd1.tail _ _ u z b hu hz hbu hbz
          omega)
       refine wp_value hrun ⟨_, _, _, _, hK, rfl, ⟨q1, g.A.mono q2 fun _ _ h => get_snoc h, .nst _ _ (vs.drop i) ?_⟩, .refl _, q3.mono (Nat.zero_le _)⟩
       show (β ++ [_])[σ.ob.length]? = some _
       rw [← g.W.len]
       simp
     ·cases h
    ·cases h
   ·cases h
  ·cases h
 ·cases h

end Go.Ev
