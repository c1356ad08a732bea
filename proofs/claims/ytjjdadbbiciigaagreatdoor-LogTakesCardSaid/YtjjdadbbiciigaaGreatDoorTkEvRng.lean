/- Loops over functions: a round; the whole statement. -/
import Derived.Test.YtjjdadbbiciigaaGreatDoorTkEvFnA
namespace Go.Ev
set_option linter.unusedVariables false
set_option linter.unusedSimpArgs false
set_option linter.unusedSectionVars false
variable [tG : TabG] [lG : LoopG]

variable {P : Program} {R : Type} {cx : Cx} {β β' : List Value} {ob ob' : List O} {w w' : World} {σ σ' : St} {a a' : Act}
variable {r : R} {Γ : FuncId -> Option Sum}

theorem live_not_deferred (hW : WRep cx β ob w) {b : Nat} (hl : LiveB β ob b) (d : Option (List Deferred)) : w.heap[b]? ≠ some (.deferred d) := by
 obtain ⟨i, o, x, h1, h2, h3, h4⟩ := hl
 have h := hW.obj i o x h1 h3
 have hown : ∀ {e : TypeId} {sz n : Nat} {y : Value} {cells : List Value}, ownsM w e sz y n cells -> blk1 y = some b -> w.heap[b]? ≠ some (.deferred d) := by
  intro e sz n y cells ho hb
  rcases ho.2 with ⟨rfl, _⟩ | ⟨g, cap, cur, rfl, _, ⟨fz, hg, _⟩, _⟩
  ·simp [blk1] at hb
  ·simp [blk1] at hb
   subst hb
   rw [hg]
   simp
 intro hd
 cases o with
 |box ty cs =>
  obtain ⟨g, vs, rfl, hg, _⟩ := h
  simp [blk, blk1] at h4
  subst h4
  rw [hd] at hg
  cases hg
 |row s =>
  obtain ⟨cells, ho, _⟩ := h
  exact hown ho ((own_blk1 ho b).1 h4) hd
 |frz s => cases h2
 |gone => cases h2
 |frn s => cases h2
 |map kt vt l =>
  obtain ⟨g, es, clock, rfl, hg, _⟩ := h
  simp [blk, blk1] at h4
  subst h4
  rw [hd] at hg
  cases hg
 |nst s =>
  obtain ⟨y, vs, rfl, hl, hz, ho, hin, hf, hds⟩ := h
  obtain ⟨u, hu, hb2⟩ := blk_tuple.1 h4
  rcases List.mem_cons.1 hu with rfl | hu
  ·rcases ho with ⟨rfl, _⟩ | ⟨g, off, cap, cur, rfl, ⟨fz, hg, _⟩, _⟩
   ·simp [blk1] at hb2
   ·simp [blk1] at hb2
    subst hb2
    rw [hd] at hg
    cases hg
  ·obtain ⟨j, hj⟩ := List.getElem?_of_mem hu
   obtain ⟨q, _, _, cells, ho2, _⟩ := hin j u hj
   exact hown ho2 hb2 hd
 |hol s j =>
  obtain ⟨y, vs, us, rfl, hl, hu, hz, ho, hne, hin, hf, hds⟩ := h
  obtain ⟨u, hu, hb2⟩ := blk_tuple.1 h4
  rcases List.mem_cons.1 hu with rfl | hu
  ·rcases ho with ⟨rfl, _⟩ | ⟨g, off, cap, cur, rfl, ⟨fz, hg, _⟩, _⟩
   ·simp [blk1] at hb2
   ·simp [blk1] at hb2
    subst hb2
    rw [hd] at hg
    cases hg
  ·obtain ⟨j, hj⟩ := List.getElem?_of_mem hu
   obtain ⟨q, _, _, cells, ho2, _⟩ := hin j u hj
   exact hown ho2 hb2 hd
 |grn i' j e z m =>
  rcases h with ⟨cells, ho⟩ | ⟨A, c, n, y, vs, rfl, _⟩
  ·exact hown ho ((own_blk1 ho b).1 h4) hd
  ·simp [blk, blk1] at h4
 |loop key fr ph =>
  obtain ⟨l, rc, rfl, hg, _⟩ := h
  simp [blk, blk1] at h4
  subst h4
  rw [hd] at hg
  cases hg

/-! ### A round -/

/-! ### The whole statement -/

theorem step_collect {fr : Frame} {cs : List Frame} {D : Nat} (hm : fr.mode = .returning) (hd : fr.defers = [{ target := .collected D, args := #[] }]) (h : w.heap[D]? = some (.deferred (some []))) :
  step P (lone fr cs w) = .next (lone { fr with defers := [] } cs (w.putObj D (.deferred none))) :=
 step_lone_go (by simp [stepG, unwind, hm, hd, Sem.runT_eq, run_takeDeferred h, GStep.bare_after])

def Ends (P : Program) (b : Frame) (cs : List Frame) (T : Act -> World -> Prop) (m : Machine) : Prop :=
 ∃ a' w', T a' w' ∧ ∃ todo, Steps P m (lone { b.at a' todo with mode := .returning } cs w')

theorem Ends.of_steps {b : Frame} {cs : List Frame} {T : Act -> World -> Prop} {m m' : Machine} (h : Steps P m m') (h' : Ends P b cs T m') : Ends P b cs T m :=
 let ⟨a', w', ht, todo, hs⟩ := h'; ⟨a', w', ht, todo, h.trans hs⟩

abbrev colD (D : Nat) : List Deferred := [{ target := .collected D, args := #[] }]

theorem maskFr_rep {ok : Bool -> Nat -> Prop} {keep : List Nat} {fr : List AV} {t : Array Value} (h : RepL w ok β fr t.toList) : ∀ p ∈ maskFr keep fr, RepV w ok β p.2 (t.getD p.1 undef) := by
 intro p hp
 unfold maskFr at hp
 obtain ⟨i, _, rfl⟩ := List.mem_map.1 hp
 show RepV w ok β (fr.getD i .un) (t.getD i undef)
 rw [List.getD_eq_getElem?_getD]
 cases hf : fr[i]? with
 |none => exact .un _
 |some z =>
  have hi : i < t.size := by have := get_lt hf; have := h.1; simp at this; omega
  have := h.2 i z t[i] hf (by simp [hi])
  simpa [hi] using this

theorem evRange_sound {cuts : Cuts} {retK : St -> Option R} {T : Act -> World -> Prop} {b : Frame} {cs : List Frame} {g0 : Operand} {ps : Array Tmp} {asg body : Code} {k : List Item}
  (hm : P.follows .mixedOrders = true) (hΓ : Right P Γ) (hb : b.roundOf = none)
  (hkey : ∀ key keep q, rfKey cuts = some (key, keep) -> rfOf P key = some q -> b.fn = key ∧ q.2 = (ps, asg, body) ∧ LoopG.code key = some q)
  (hret : ∀ β σ a w, @Good tG lG ⟨[]⟩ cx β σ a w -> retK σ = some r -> T a w)
  (g : @Good tG lG ⟨[]⟩ cx β σ a w) (h : evRange P Γ cuts retK g0 k σ = some r) : Ends P b cs T (lone (b.at a (.code (.rangeFunc g0 ps asg body) :: k)) cs w) := by
 letI dG : DfG := ⟨[]⟩
 unfold evRange at h
 split at h
 case h_2 => cases h
 rename_i key keep hk
 split at h
 case h_2 => cases h
 rename_i q hq
 split at h
 case h_2 => cases h
 rename_i gf cap he
 split at h
 case h_2 => cases h
 rename_i S hS
 split at h
 case h_2 => cases h
 rename_i hyl hsz
 simp only [forceOs_eq, forceM_eq (forceD_eq 5)] at h
 obtain ⟨hfn, hq2, hcode⟩ := hkey key keep q hk hq
 obtain ⟨n0, q2⟩ := q
 dsimp only at hq2 hsz
 subst hq2
 replace hsz := Nat.eq_of_beq_eq_true hsz
 have hdef : a.defers = [] := g.A.def_
 -- the block for deferred calls, the loop's record
 obtain ⟨rec0, hrec0⟩ : ∃ rec0 : Loop, rec0 = { state := .ready, pending := none, fn := b.fn, tmps := a.tmps, params := ps, assign := asg, body := body, defers := w.heap.size } := ⟨_, rfl⟩
 obtain ⟨w2, hw2⟩ : ∃ w2, w2 = (w.alloc (.deferred (some []))).alloc (.loop rec0) := ⟨_, rfl⟩
 obtain ⟨D, hD⟩ : ∃ D, D = w.heap.size := ⟨_, rfl⟩
 have hS12 : Same w w2 := by rw [hw2]; exact (Same.alloc w _).trans (Same.alloc _ _)
 have hs2 : w2.heap.size = D + 2 := by rw [hw2, hD]; simp
 have hL : w2.heap[D + 1]? = some (.loop rec0) := by
  rw [hw2, hD]
  have := World.alloc_heap_new (w.alloc (.deferred (some []))) (.loop rec0)
  rwa [World.size_alloc] at this
 have hDD : w2.heap[D]? = some (.deferred (some [])) := by
  rw [hw2, hD, heap_alloc_old _ _ (by simp)]
  exact World.alloc_heap_new w _
 generalize hn : σ.ob.length + 1 = n at h
 have hlen : β.length = σ.ob.length := g.W.len
 -- the state with the record
 obtain ⟨β1, hβ1⟩ : ∃ β1, β1 = β ++ [Value.pointer (some ⟨D + 1, 0, none⟩)] := ⟨_, rfl⟩
 have hW1 : WRep cx β1 (ranOb key keep σ) w2 := by
  rw [hβ1]
  refine g.W.new hS12 (fun _ b hb => ?_) ⟨D + 1, rec0, rfl, hL, by rw [hrec0]; exact hfn, by rw [hcode, hrec0, ← hsz, g.A.len], by rw [hrec0]; rfl, by rw [hrec0]; rfl, ?_⟩
  ·simp [blk, blk1] at hb
   omega
  ·rw [hrec0]
   refine maskFr_rep (RepL.mono (w := w) (ok := okB cx β σ.ob) (β := β) (fun fl b hok hb => ⟨ok_snoc (w := w) g.W.len (fun _ b hb => ?_) hok hb, hS12.blk b hb⟩) (fun _ _ h => get_snoc h) (ARep.to_L (dG := ⟨[]⟩) g.A))
   simp [blk, blk1] at hb
   omega
 have hob1 : (ranOb key keep σ).length = n := by rw [← hn]; simp [ranOb]
 have hβ1n : β1.length = n := by rw [hW1.len, hob1]
 have hlast : β1[σ.ob.length]? = some (.pointer (some ⟨D + 1, 0, none⟩)) := by
  rw [hβ1, ← hlen]
  simp
 have hokn : ∀ fl b, okB cx β σ.ob fl b -> b < w.heap.size -> okB cx β1 (ranOb key keep σ) fl b ∧ w2.heap[b]? = w.heap[b]? := by
  intro fl b hok hb
  rw [hβ1]
  refine ⟨ok_snoc (w := w) g.W.len (fun _ b hb => ?_) hok hb, hS12.blk b hb⟩
  simp [blk, blk1] at hb
  omega
 have hβx : ∀ (i : Nat) (x : Value), β[i]? = some x -> β1[i]? = some x := fun i x h => by rw [hβ1]; exact get_snoc h
 -- all is handed over
 have hlall : (List.range n).all (fun i => decide (i < (ranOb key keep σ).length)) = true := by
  rw [hob1]
  simp
 have hnd : (List.range n).Nodup := List.nodup_range
 obtain ⟨hWs, hoks⟩ := @start_good tG lG ⟨[]⟩ cx β1 (ranOb key keep σ) w2 (List.range n) [] hW1 hlall hnd (by simp)
 generalize hcxs : cx1 cx β1 (ranOb key keep σ) (List.range n) [] w2 = cxs at *
 have hw0s : cxs.w0 = w2 := by rw [← hcxs]; rfl
 have hpbs : cxs.pb = PB β1 (ranOb key keep σ) (List.range n) := by rw [← hcxs]; rfl
 have hbase : ∀ (i : Nat) (x : Value), β1[i]? = some x -> i < n -> cxs.b0[i]? = some x := by
  intro i x hx hi
  rw [← hcxs]
  show ((List.range n).map fun i => β1.getD i undef)[i]? = some x
  rw [List.getElem?_map, List.getElem?_range hi]
  simp [List.getD_eq_getElem?_getD, hx]
 have hf : ∀ (i j : Nat) (x : Value), idx (List.range n) i = some j -> β1[i]? = some x -> ((List.range n).map fun i => β1.getD i undef)[j]? = some x := by
  intro i j x h hx
  have := idx_some h
  rw [List.getElem?_map, this]
  simp [List.getD_eq_getElem?_getD, hx]
 generalize hβs : ((List.range n).map fun i => β1.getD i undef) = βs at *
 generalize hobs : (pick (ranOb key keep σ) (idx (List.range n)) (List.range n)).map unfO = obs at *
 have conv : ∀ (x : AV) (v : Value), RepV w (okB cx β σ.ob) β x v -> RepV w2 (okB cxs βs obs) βs (unf 5 (ren (idx (List.range n)) 5 x)) v := by
  intro x v hx
  have hx1 : RepV w2 (okV cx β1 (ranOb key keep σ) []) β1 x v := hx.mono (fun fl b hok hb => ⟨.inl (hokn fl b hok hb).1, (hokn fl b hok hb).2⟩) hβx
  exact RepV.unf (ok' := okB cxs βs obs) hoks 5 _ v (RepV.ren (w' := w2) (ok' := okV cx β1 (ranOb key keep σ) []) hf (fun fl b h _ => ⟨h, rfl⟩) 5 x v hx1)
 obtain ⟨aD, haD⟩ : ∃ aD : Act, aD = ⟨a.tmps, colD D⟩ := ⟨_, rfl⟩
 have gD : @Good tG lG ⟨colD D⟩ cxs βs ⟨σ.fr.map fun x => unf 5 (ren (idx (List.range n)) 5 x), obs⟩ aD w2 := by
  rw [haD]
  refine @Good.mk tG lG ⟨colD D⟩ _ _ _ _ _ hWs (ARep.of_L (dG := ⟨colD D⟩) ⟨?_, fun i x y hx hy => ?_⟩ rfl)
  ·have := g.A.len
   simpa using this
  ·obtain ⟨z, hz, rfl⟩ := get_map hx
   exact conv z y ((ARep.to_L (dG := ⟨[]⟩) g.A).2 i z y hz hy)
 -- the call
 obtain ⟨⟨fn, hfnn, hbody, hname⟩, hsound⟩ := hΓ.fn hS hyl
 have hx := Good.ev (dG := ⟨[]⟩) g g0
 rw [he] at hx
 generalize hv : a.eval g0 = v0 at hx
 cases hx with
 |clo _ _ vs hvl hvc =>
  have hys : RepV w2 (okB cxs βs obs) βs (.yld σ.ob.length) (.func (.yield (D + 1)) #[] #[]) := by
   refine .yld _ _ ?_
   rw [← hβs, List.getElem?_map, List.getElem?_range (by omega)]
   simp [List.getD_eq_getElem?_getD, hlast]
  have hrepl : RepL w2 (okB cxs βs obs) βs (.yld σ.ob.length :: cap.map fun x => unf 5 (ren (idx (List.range n)) 5 x)) (.func (.yield (D + 1)) #[] #[] :: vs) := by
   refine ⟨by simp [hvl], fun i x y hx hy => ?_⟩
   cases i with
   |zero =>
    simp at hx hy
    subst hx hy
    exact hys
   |succ i =>
    simp only [List.getElem?_cons_succ] at hx hy
    obtain ⟨z, hz, rfl⟩ := get_map hx
    exact conv z y (hvc i z y hz hy)
  have hcall := @call_sound tG lG ⟨colD D⟩ P R cxs βs w2 ⟨σ.fr.map fun x => unf 5 (ren (idx (List.range n)) 5 x), obs⟩ aD _ r gf S [] _ _ hsound gD hrepl h
  obtain ⟨e, w3, fr, hpost, hcomes, _, hleave⟩ := hcall (b.atR aD (.inRangeFunc (D + 1) :: k) :: cs)
  obtain ⟨v, x, σ2, β2, rfl, hK, hres, _, _, _⟩ := hpost
  -- the statement's first step
  have hs1 : step P (lone (b.atR a (.code (.rangeFunc g0 ps asg body) :: k)) cs w) = .next (lone (Frame.enter P gf (Value.func (.yield (D + 1)) #[] #[] :: vs).toArray .normal) (b.atR aD (.inRangeFunc (D + 1) :: k) :: cs) w2) := by
   have := stepR_rangeFunc (P := P) (b := b) (a := a) (k := k) (cs := cs) (w := w) (g := g0) (ps := ps) (assign := asg) (body := body) (l := D + 1) (mark := colD D) (w₁ := w2) (w₁' := w2) (w₂ := w2)
    (d := { target := .fn (.func gf) vs.toArray, args := #[.func (.yield (D + 1)) #[] #[]] }) (f := gf) (args := (Value.func (.yield (D + 1)) #[] #[] :: vs).toArray)
    (by rw [hb, hw2, hrec0, hD]; exact run_enterLoop_outer _ _ _ _ _)
    (by
     have hc : a.eval (.const (.func (.yield (D + 1)) #[] #[])) = .func (.yield (D + 1)) #[] #[] := rfl
     simp [resolve, hv, hc, Deferred.ofValue])
    (by
     have e1 : #[Value.func (.yield (D + 1)) #[] #[]] ++ vs.toArray = (Value.func (.yield (D + 1)) #[] #[] :: vs).toArray := by simp
     simp [invoke, callFunc, hfnn, hbody, hname]
     rw [if_neg (by simpa using hname), if_neg (by intro e; rw [e] at hbody; cases hbody)])
   rw [haD]
   rw [hdef] at this
   simpa using this
  have hs2' : Steps P (lone (b.at a (.code (.rangeFunc g0 ps asg body) :: k)) cs w) (lone (b.atR aD (.endRangeFunc (D + 1) :: k)) cs w3) := by
   rw [← Frame.atR_of_none hb]
   refine .head hs1 (Steps.trans hcomes (.one ?_))
   rw [step_leave_returned hleave, finish_atR_inRangeFunc]
  -- the record behind the loop
  split at hK
  case h_2 => cases hK
  rename_i k2 fr2 ph hob2
  obtain ⟨hW3, hA3, _⟩ := hres
  have hi2 : β2[σ.ob.length]? = some (.pointer (some ⟨D + 1, 0, none⟩)) := hW3.pre _ _ (hbase _ _ hlast (by omega))
  obtain ⟨l3, rc, e, hl3, hr3⟩ := hW3.obj _ _ _ hob2 hi2
  obtain rfl : D + 1 = l3 := by simpa using e
  have hpbL : PB β1 (ranOb key keep σ) (List.range n) (D + 1) := ⟨σ.ob.length, .loop key (maskFr keep σ.fr) 0, _, by simp; omega, by simp [ranOb], rfl, hlast, rfl⟩
  have g3 : @Good tG lG ⟨colD D⟩ cxs β2 ⟨σ2.fr, σ2.ob.set σ.ob.length .gone⟩ aD w3 :=
   @Good.mk tG lG ⟨colD D⟩ _ _ _ _ _ (hW3.gone _) (ARep.mono (dG := ⟨colD D⟩) (fun fl b hok hb => ⟨okB_of hok fun hl => live_dead rfl hl, rfl⟩) (fun _ _ h => h) hA3)
  have g4 : @Good tG lG ⟨colD D⟩ cxs β2 ⟨σ2.fr, σ2.ob.set σ.ob.length .gone⟩ aD (w3.putObj (D + 1) (.loop { rc with state := .exhausted })) := by
   refine @Good.dead tG lG ⟨colD D⟩ _ _ _ _ _ g3 _ _ _ hl3 (fun c e f h => by cases h) ?_ (.inr (by rw [hpbs]; exact hpbL))
   rintro ⟨j, o, y, h1, h2, h3, h4⟩
   rcases mem_set h1 with ⟨hne, h1⟩ | ⟨rfl, rfl, _⟩
   ·exact hne (hW3.sep j _ o _ y _ (D + 1) h1 hob2 h2 rfl h3 hi2 h4 rfl)
   ·cases h2
  -- the function's end
  have fin : ∀ (β5 : List Value) (σ5 : St) (a5 : Act) (w5 : World), @Good tG lG ⟨colD D⟩ cxs β5 σ5 a5 w5 -> retK (backSt n (ranOb key keep σ) σ5) = some r →
    ∀ (m : Machine) (todo : List Item), Steps P m (lone { b.atR a5 todo with mode := .returning } cs w5) -> Ends P b cs T m := by
   intro β5 σ5 a5 w5 g5 h5 m todo hst
   have hA5 := @Good.A tG lG ⟨colD D⟩ _ _ _ _ _ g5
   have hW5 := @Good.W tG lG ⟨colD D⟩ _ _ _ _ _ g5
   have hd5 : a5.defers = colD D := @ARep.def_ ⟨colD D⟩ _ _ _ _ _ hA5
   have hnl : ¬ PB β1 (ranOb key keep σ) (List.range n) D := by
    rintro ⟨i, o, y, _, h1, h2, h3, h4⟩
    refine live_not_deferred hW1 ⟨i, o, y, h1, h2, h3, h4⟩ _ hDD
   have hD5 : w5.heap[D]? = some (.deferred (some [])) := by
    have := hW5.keep D (by rw [hw0s, hs2]; omega) (by rw [hpbs]; exact hnl)
    rw [this, hw0s]
    exact hDD
   have hA1 : @ARep ⟨[]⟩ w2 (okB cx β1 (ranOb key keep σ)) β1 σ.fr a := ARep.mono (dG := ⟨[]⟩) hokn hβx g.A
   have hx5 : RepV w5 (okB cxs β5 σ5.ob) β5 (.tup σ5.fr) (.tuple a5.tmps) := by
    have := ARep.to_L (dG := ⟨colD D⟩) hA5
    have e := RepV.tup σ5.fr a5.tmps.toList this.1 this.2
    simpa using e
   rw [← hcxs] at hW5 hx5
   obtain ⟨βF, ⟨q1, _, q3⟩, _, _⟩ := @back_good tG lG ⟨[]⟩ cx β1 β5 (ranOb key keep σ) σ5.ob w2 w5 a (List.range n) [] true (ranOb key keep σ) (.tup σ5.fr) (.tuple a5.tmps) σ.fr hW1 hA1 hlall hnd (by simp) rfl hW5 hx5 (by simp)
   rw [List.length_range, hob1] at q1 q3
   have g6 : @Good tG lG ⟨[]⟩ cx βF (backSt n (ranOb key keep σ) σ5) ⟨a5.tmps, []⟩ w5 := by
    refine @Good.mk tG lG ⟨[]⟩ _ _ _ _ _ q1 (ARep.of_L (dG := ⟨[]⟩) ?_ rfl)
    change RepV w5 _ βF (.tup (σ5.fr.map (ren (back (List.range n) n) 4))) (.tuple a5.tmps) at q3
    generalize hz : Value.tuple a5.tmps = z at q3
    cases q3 with
    |tup _ vs h1 h2 =>
     have hz := Value.tuple.inj hz
     rw [hz]
     exact ⟨h1, h2⟩
   have g7 := @Good.dead tG lG ⟨[]⟩ _ _ _ _ _ g6 D _ (.deferred none) hD5 (fun c e f h => by cases h) (fun hl => live_not_deferred q1 hl _ hD5) (.inl (by rw [hD]; exact g.W.hs))
   refine ⟨_, _, hret _ _ _ _ g7 h5, todo, hst.trans (.one ?_)⟩
   have hc := step_collect (P := P) (fr := { b.atR a5 todo with mode := .returning }) (cs := cs) rfl (by show a5.defers = _; exact hd5) hD5
   rw [hc]
   simp [Frame.atR, Frame.at, hb]
  have cont : ∀ (k1 : List Item) (m : Machine), runR P Γ (fun j σ4 => if j ≤ 1 then retK (backSt n (ranOb key keep σ) σ4) else none) 3000 k1 ⟨σ2.fr, σ2.ob.set σ.ob.length .gone⟩ = some r →
    Steps P m (lone (b.atR aD (k1 ++ [])) cs (w3.putObj (D + 1) (.loop { rc with state := .exhausted }))) -> Ends P b cs T m := by
   intro k1 m h5 hst
   obtain ⟨n5, a5, w5, ⟨β5, σ5, g5, h6⟩, s5⟩ := @runR_sound tG lG ⟨colD D⟩ P R cxs r Γ _ b cs [] hm hΓ 3000 k1 β2 _ _ _ g4 h5
   match n5, h6, s5 with
   |0, h6, s5 => exact fin β5 σ5 a5 w5 g5 h6 m [] (hst.trans (s5.trans (.one (stepR_end hb))))
   |1, h6, ⟨kk, s5⟩ => exact fin β5 σ5 a5 w5 g5 h6 m _ (hst.trans (s5.trans (.one (stepR_ret hb))))
   |id + 2, h6, _ =>
    rw [if_neg (by omega)] at h6
    cases h6
  have hend : ∀ (jump : Option Code), rc.state ≠ .busy -> rc.pending = jump -> Steps P (lone (b.at a (.code (.rangeFunc g0 ps asg body) :: k)) cs w) (lone (b.atR aD ((jump.map Item.code).toList ++ k)) cs (w3.putObj (D + 1) (.loop { rc with state := .exhausted }))) := by
   intro jump hst hp
   refine hs2'.trans (.one (stepR_endRangeFunc ?_))
   rw [← hp]
   exact run_endLoop hl3 hst
  obtain ⟨_, _, hst3, hpd3, _⟩ := hr3
  unfold evAfter at hK
  match ph, hK, hst3, hpd3 with
  |0, hK, hst3, hpd3 => exact cont k _ hK (by have := hend none (by rw [hst3]; decide) hpd3; simpa using this)
  |1, hK, _, _ => cases hK
  |2, hK, hst3, hpd3 => exact fin _ _ _ _ g4 hK _ _ ((hend (some .ret) (by rw [hst3]; decide) hpd3).trans (.one (stepR_ret hb)))
  |id + 3, hK, hst3, hpd3 =>
   dsimp only at hK
   split at hK
   ·rename_i k' hk'
    refine cont k' _ hK ?_
    rw [List.append_nil]
    exact (hend (some (.exit id)) (by rw [hst3]; simp [stOf]) hpd3).trans (.one (stepR_exit hk'))
   ·cases hK

end Go.Ev
