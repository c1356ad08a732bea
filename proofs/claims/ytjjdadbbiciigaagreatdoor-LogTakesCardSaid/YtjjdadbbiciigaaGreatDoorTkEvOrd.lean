/- Regions: their operations one by one, in the order that is written or in any; a call of a yield among them. -/
import Derived.OrdersHeld
import Derived.AtR
namespace Go.Ev
set_option linter.unusedVariables false

def QF : Exit -> Act -> World -> Prop := fun _ _ _ => False

def Rounds (P : Program) (l : Nat) (fn : FuncId) (tmps : Array Value) (assign body : Code) (w : World) (R : Value -> World -> Prop) : Prop :=
 ∀ (c : Frame) (cs : List Frame), ∃ v w', R v w' ∧ Steps P (lone (Frame.round l fn tmps assign body .normal) (c :: cs) w) (lone (c.finish v) cs w')

theorem Rounds.mono {P : Program} {l : Nat} {fn : FuncId} {tmps : Array Value} {assign body : Code} {w : World} {R R' : Value -> World -> Prop} (h : Rounds P l fn tmps assign body w R) (hr : ∀ v w', R v w' -> R' v w') :
  Rounds P l fn tmps assign body w R' := fun c cs => let ⟨v, w', r, s⟩ := h c cs; ⟨v, w', hr _ _ r, s⟩

def Yld (P : Program) (o : Oper) (a : Act) (w : World) (next : Act -> World -> Prop) : Prop :=
 ∃ l fn tmps assign body w1, (execOp a.eval o).run P w = .ok (.round l fn tmps assign body) w1 ∧ Rounds P l fn tmps assign body w1 fun v w' => next (a.put o.dst v) w'

def doneY (P : Program) (o : Oper) (a : Act) (w : World) (K : Act -> World -> Prop) : Prop :=
 (∀ c, o.op ≠ .defer c) ∧ (o.wp P a w K QF ∨ Yld P o a w K)

theorem doneY.mono {P : Program} {o : Oper} {a : Act} {w : World} {K K' : Act -> World -> Prop} (h : ∀ a w, K a w -> K' a w) (hh : doneY P o a w K) : doneY P o a w K' :=
 ⟨hh.1, hh.2.imp (Oper.wp_mono h) fun ⟨l, fn, tmps, assign, body, w1, e, hr⟩ => ⟨l, fn, tmps, assign, body, w1, e, hr.mono fun v w' => h _ _⟩⟩

def wpOpY (P : Program) (ops : Array Oper) (i : Nat) (K : Act -> World -> Prop) (a : Act) (w : World) : Prop :=
 match ops[i]? with
 |none => K a w
 |some o => if Region.wanted o (yielded ops a.tmps) then doneY P o a w K else K (a.put o.dst undef) w

def wpOpsY (P : Program) (ops : Array Oper) (T : Act -> World -> Prop) : List Nat -> Act -> World -> Prop
 |[], a, w => T a w
 |i :: rest, a, w => wpOpY P ops i (wpOpsY P ops T rest) a w

section
variable {P : Program} {ops : Array Oper} {T : Act -> World -> Prop} {md : Region.Mode} {S : Array Bool -> World -> Prop}

theorem wpOpY_mono {i : Nat} {a : Act} {w : World} {K K' : Act -> World -> Prop} (h : ∀ a w, K a w -> K' a w) (hh : wpOpY P ops i K a w) : wpOpY P ops i K' a w := by
 unfold wpOpY at *
 cases ho : ops[i]? with
 |none =>
  rw [ho] at hh
  exact h _ _ hh
 |some o =>
  rw [ho] at hh
  dsimp only at hh ⊢
  by_cases hw : Region.wanted o (yielded ops a.tmps) = true
  ·rw [if_pos hw] at hh ⊢
   exact hh.mono h
  ·rw [if_neg hw] at hh ⊢
   exact h _ _ hh

theorem steps_op {i : Nat} {rest : List Nat} {K : Act -> World -> Prop} {a : Act} {w : World} (h : wpOpY P ops i K a w) (b : Frame) (k : List Item) (cs : List Frame) :
  ∃ a' w', K a' w' ∧ Steps P (lone (b.atR a (.inRegion ops (i :: rest) :: k)) cs w) (lone (b.atR a' (.inRegion ops rest :: k)) cs w') := by
 unfold wpOpY at h
 cases ho : ops[i]? with
 |none =>
  rw [ho] at h
  have hs := stepR_op_skip (P := P) (b := b) (a := a) (k := k) (cs := cs) (w := w) (ops := ops) (i := i) (rest := rest) (by simp [ho])
  simp only [ho, Option.bind_none, Act.put] at hs
  exact ⟨a, w, h, .one hs⟩
 |some o =>
  rw [ho] at h
  dsimp only at h
  by_cases hw : Region.wanted o (yielded ops a.tmps) = true
  ·rw [if_pos hw] at h
   obtain ⟨hd, h⟩ := h
   have hg := stepGR_op (P := P) (b := b) (k := k) (cs := cs) (w := w) (rest := rest) ho hw
   rw [Oper.semAt_eq _ _ _ hd] at hg
   have hfin : ∀ v, (b.atR a (.inRegion ops (i :: rest) :: k)).finish v = b.atR (a.put o.dst v) (.inRegion ops rest :: k) := fun v => by
    rw [Frame.finish_atR, ho]
    rfl
   rcases h with h | ⟨l, fn, tmps, assign, body, w1, e, hr⟩
   ·unfold Oper.wp at h
    cases hr : (execOp a.eval o).run P w with
    |ok n w' =>
     rw [hr] at h
     cases n with
     |value v =>
      exact ⟨_, w', h, .one (step_lone_go (by rw [hg, ← hfin]; simp [stepG.apply, hr]))⟩
     |skip =>
      exact ⟨_, w', h, .one (step_lone_go (by rw [hg, ← hfin]; simp [stepG.apply, hr]))⟩
     |defer d =>
      have e1 : ({ b.atR a (.inRegion ops (i :: rest) :: k) with defers := d :: a.defers } : Frame).finish undef = b.atR ({ a with defers := d :: a.defers }.put o.dst undef) (.inRegion ops rest :: k) := by
       have := Frame.finish_atR b { a with defers := d :: a.defers } ops i rest k undef
       rw [ho] at this
       exact this
      refine ⟨_, w', h, .one (step_lone_go ?_)⟩
      rw [hg]
      simp only [stepG.apply, Sem.runT_eq, hr, GStep.bare_after]
      exact congrArg (fun fr => GStep.go { frame := fr, callers := cs, status := .running, dying := none } w') e1
     |enter f args =>
      obtain ⟨e, w2, fr, hR, hsteps, _, hleave⟩ := h (b.atR a (.inRegion ops (i :: rest) :: k) :: cs)
      have henter : step P (lone (b.atR a (.inRegion ops (i :: rest) :: k)) cs w) = .next (lone (Frame.enter P f args .normal) (b.atR a (.inRegion ops (i :: rest) :: k) :: cs) w') :=
       step_lone_go (by rw [hg]; simp [stepG.apply, hr, Frame.atR])
      cases e with
      |returned v =>
       refine ⟨_, w2, hR, .head henter (hsteps.trans (.one ?_))⟩
       rw [← hfin]
       exact step_leave_returned hleave
      |panicked c => exact hR.elim
      |outgrown =>
       obtain ⟨_, _, hq⟩ := hR
       exact hq.elim
     |row row args =>
      obtain ⟨v, w2, hR, hsteps⟩ := h (b.atR a (.inRegion ops (i :: rest) :: k)) cs
      have henter : step P (lone (b.atR a (.inRegion ops (i :: rest) :: k)) cs w) = .next (lone (Frame.ofRow P row args .normal) (b.atR a (.inRegion ops (i :: rest) :: k) :: cs) w') :=
       step_lone_go (by rw [hg]; simp [stepG.apply, hr, Frame.atR])
      refine ⟨_, w2, hR, .head henter ?_⟩
      rw [← hfin]
      exact hsteps
     |_ => exact h.elim
    |halt x w' =>
     rw [hr] at h
     cases x <;> exact h.elim
   ·obtain ⟨v, w2, hR, hsteps⟩ := hr (b.atR a (.inRegion ops (i :: rest) :: k)) cs
    have henter : step P (lone (b.atR a (.inRegion ops (i :: rest) :: k)) cs w) = .next (lone (Frame.round l fn tmps assign body .normal) (b.atR a (.inRegion ops (i :: rest) :: k) :: cs) w1) :=
     step_lone_go (by rw [hg]; simp [stepG.apply, e, Frame.atR])
    refine ⟨_, w2, hR, .head henter ?_⟩
    rw [← hfin]
    exact hsteps
  ·rw [if_neg hw] at h
   have hs := stepR_op_skip (P := P) (b := b) (a := a) (k := k) (cs := cs) (w := w) (ops := ops) (i := i) (rest := rest) (by simp [ho]; simpa using hw)
   simp only [ho, Option.bind_some] at hs
   exact ⟨_, w, h, .one hs⟩

theorem steps_ops : ∀ (l : List Nat) (a : Act) (w : World), wpOpsY P ops T l a w -> ∀ (b : Frame) (k : List Item) (cs : List Frame),
  ∃ a' w', T a' w' ∧ Steps P (lone (b.atR a (.inRegion ops l :: k)) cs w) (lone (b.atR a' k) cs w')
 |[], a, w, h, b, k, cs => ⟨a, w, h, .one stepR_region_end⟩
 |i :: rest, a, w, h, b, k, cs =>
  let ⟨a1, w1, h1, s1⟩ := steps_op (rest := rest) h b k cs
  let ⟨a2, w2, h2, s2⟩ := steps_ops rest a1 w1 h1 b k cs
  ⟨a2, w2, h2, s1.trans s2⟩

def wpAnyL (P : Program) (md : Region.Mode) (ops : Array Oper) (T : Act -> World -> Prop) (S : Array Bool -> World -> Prop) : Nat -> Array Bool -> Act -> World -> Prop
 |0, L, a, w => Region.ready md ops L = [] ∧ T a w
 |n + 1, L, a, w => (Region.ready md ops L = [] -> T a w) ∧
  ∀ i ∈ Region.ready md ops L, wpOpY P ops i (fun a' w' => S (L.setIfInBounds i true) w' ∧ wpAnyL P md ops T S n (L.setIfInBounds i true) a' w') a w

theorem wpOps_of_L : ∀ (n t : Nat) (L : Array Bool) (a : Act) (w : World), wpAnyL P md ops T S n L a w -> wpOpsY P ops T (Region.linearise.go md ops n t L []) a w
 |0, t, L, a, w, h => by simpa [Region.linearise.go, wpOpsY] using h.2
 |n + 1, t, L, a, w, h => by
  simp only [Region.linearise.go]
  change wpOpsY P ops T (match (Region.ready md ops L)[t % (Region.ready md ops L).length]? with
   |some i => Region.linearise.go md ops n (t / (Region.ready md ops L).length) (L.setIfInBounds i true) [i]
   |none => [].reverse) a w
  cases hi : (Region.ready md ops L)[t % (Region.ready md ops L).length]? with
  |none =>
   have hnil : Region.ready md ops L = [] := by
    rcases Nat.eq_zero_or_pos (Region.ready md ops L).length with h0 | h0
    ·exact List.eq_nil_of_length_eq_zero h0
    ·rw [List.getElem?_eq_getElem (Nat.mod_lt _ h0)] at hi
     cases hi
   simpa [wpOpsY] using h.1 hnil
  |some i =>
   dsimp only
   rw [linearise_go_acc, List.reverse_singleton, List.singleton_append, wpOpsY]
   exact wpOpY_mono (fun a w h => wpOps_of_L n _ _ a w h.2) (h.2 i (List.mem_of_getElem? hi))

theorem wpAnyL_done {L : Array Bool} {a : Act} {w : World} (hr : Region.ready md ops L = []) (h : T a w) : ∀ n, wpAnyL P md ops T S n L a w
 |0 => ⟨hr, h⟩
 |_ + 1 => ⟨fun _ => h, by rw [hr]; simp⟩

def Shut (md : Region.Mode) (ops : Array Oper) (L : Array Bool) : Prop :=
 ∀ j o, ops[j]? = some o -> L.getD j false = true -> ∀ e ∈ o.after, Region.binds md e = true -> L.getD e.on false = true

theorem Shut.set {L : Array Bool} {i : Nat} (h : Shut md ops L) (hi : i ∈ Region.ready md ops L) : Shut md ops (L.setIfInBounds i true) := by
 intro j o ho hj e he hb
 by_cases hij : i = j
 ·subst hij
  obtain ⟨_, o', ho', hall⟩ := mem_ready.1 hi
  rw [ho] at ho'
  obtain rfl := Option.some.inj ho'
  exact getD_set_true (hall e he hb)
 ·rw [getD_set_ne false hij] at hj
  exact getD_set_true (h j o ho hj e he hb)

def Before (md : Region.Mode) (ops : Array Oper) (S : Array Bool -> World -> Prop) (i : Nat) (w : World) : Prop :=
 ∃ L, Shut md ops L ∧ L.getD i true = false ∧ S L w

theorem no_defer {ρ : Operand -> Value} {o : Oper} {v : Value} {w w' : World} (h : (execOp ρ o).run P w = .ok (.value v) w') (c : Call) : o.op ≠ .defer c := by
 intro e
 simp only [execOp, e, Sem.run_bind] at h
 cases hr : (resolve ρ c o.type).run P w with
 |ok d w1 =>
  rw [hr] at h
  simp [Result.andThen] at h
 |halt x w1 =>
  rw [hr] at h
  simp [Result.andThen] at h

theorem YieldsIf.opY {S : World -> Prop} {i : Nat} {o : Oper} {v : Value} {a : Act} (hi : ops[i]? = some o) (hy : YieldsIf P ops S o v a) {K : Act -> World -> Prop} {w : World} (hS : S w) (h : K (a.put o.dst v) w) :
  wpOpY P ops i K a w := by
 unfold wpOpY
 simp only [hi]
 rcases hy with ⟨hw, hv⟩ | ⟨hw, rfl⟩
 ·rw [if_pos hw]
  refine ⟨no_defer (hv w hS), .inl ?_⟩
  simp only [Oper.wp, hv w hS, Oper.upon]
  exact h
 ·rw [if_neg (by rw [hw]; exact Bool.false_ne_true)]
  exact h

theorem wpOpY_putIf {S : World -> Prop} {j : Nat} {oi oj : Oper} {v : Value} (hj : ops[j]? = some oj) (hap : oi.apart ops oj = true)
  (hsi : ∀ cs b, oi.op ≠ .select cs b) (hsj : ∀ cs b, oj.op ≠ .select cs b) {K : Act -> World -> Prop} {a : Act} {w : World}
  (hy : YieldsIf P ops S oi v a) (h : wpOpY P ops j K (a.put oi.dst v) w) :
  wpOpY P ops j (fun a' w' => YieldsIf P ops S oi v a' ∧ K (a'.put oi.dst v) w') a w := by
 obtain ⟨h1, h2, h3⟩ := Oper.apart_spec hap
 have hwd := wanted_put (ops := ops) oj a oi.dst v h1
 unfold wpOpY at h ⊢
 simp only [hj] at h ⊢
 rw [hwd] at h
 by_cases hw : Region.wanted oj (yielded ops a.tmps) = true
 ·rw [if_pos hw] at h ⊢
  refine ⟨h.1, ?_⟩
  rcases h.2 with h | ⟨l, fn, tmps, assign, body, w1, e, hr⟩
  ·have hk : wpOp P ops QF j K (a.put oi.dst v) w := by
    unfold wpOp
    simp only [hj]
    rw [hwd, if_pos hw]
    exact .inl h
   have := wpOp_putIf (Q := QF) hj hap hsi hsj (fun _ _ _ h => h) hy hk
   unfold wpOp at this
   simp only [hj] at this
   rw [if_pos hw] at this
   rcases this with h | ⟨_, _, _, h⟩
   ·exact .inl h
   ·exact h.elim
  ·refine .inr ⟨l, fn, tmps, assign, body, w1, ?_, hr.mono fun u w' hk => ⟨?_, ?_⟩⟩
   ·rw [← e, execOp_put oj hsj a oi.dst v h1]
   ·exact hy.of_same (execOp_put oi hsi a oj.dst u h3) (wanted_put oi a oj.dst u h3)
   ·rw [← Act.put_comm a v u h2]
    exact hk
 ·rw [if_neg hw] at h ⊢
  exact ⟨hy.of_same (execOp_put oi hsi a oj.dst undef h3) (wanted_put oi a oj.dst undef h3), by rw [← Act.put_comm a v undef h2]; exact h⟩

theorem wpAnyL_first {i : Nat} {oi : Oper} {v : Value} (hi : ops[i]? = some oi) (hsel : ∀ (j : Nat) (o : Oper) cs b, ops[j]? = some o -> o.op ≠ .select cs b)
  (hS1 : ∀ L w, S L w -> S (L.setIfInBounds i true) w) (hS2 : ∀ L w, S (L.setIfInBounds i true) w -> S L w) :
  ∀ (n : Nat) (L : Array Bool) (a : Act) (w : World),
   (∀ j oj, ops[j]? = some oj -> j ≠ i -> L.getD j true = false -> (∀ e ∈ oj.after, Region.binds md e = true -> e.on ≠ i) -> oi.apart ops oj = true) →
   i ∈ Region.ready md ops L -> Shut md ops L -> YieldsIf P ops (Before md ops S i) oi v a -> S L w →
   wpAnyL P md ops T S n (L.setIfInBounds i true) (a.put oi.dst v) w -> wpAnyL P md ops T S (n + 1) L a w
 |0, L, a, w, hfree, hr, hL, hy, hS, H => by
  have h0 : L.getD i true = false := (mem_ready.1 hr).1
  refine ⟨fun h => (by rw [h] at hr; cases hr), fun j hj => ?_⟩
  by_cases hji : j = i
  ·subst hji
   exact YieldsIf.opY hi hy ⟨L, hL, h0, hS⟩ ⟨hS1 L w hS, H⟩
  ·have := ready_mono hj hji
   rw [H.1] at this
   cases this
 |n + 1, L, a, w, hfree, hr, hL, hy, hS, H => by
  have h0 : L.getD i true = false := (mem_ready.1 hr).1
  refine ⟨fun h => (by rw [h] at hr; cases hr), fun j hj => ?_⟩
  by_cases hji : j = i
  ·subst hji
   exact YieldsIf.opY hi hy ⟨L, hL, h0, hS⟩ ⟨hS1 L w hS, H⟩
  ·have h1 := H.2 j (ready_mono hj hji)
   obtain ⟨hjun, oj, hoj, hall⟩ := mem_ready.1 hj
   have hnot : ∀ e ∈ oj.after, Region.binds md e = true -> e.on ≠ i := by
    intro e he hb heq
    have h3 := hall e he hb
    rw [heq] at h3
    rw [Array.getD_eq_getD_getElem?] at h0 h3
    cases hg : L[i]? with
    |none =>
     rw [hg] at h3
     cases h3
    |some b =>
     rw [hg] at h0 h3
     simp at h0 h3
     rw [h0] at h3
     cases h3
   have h2 := wpOpY_putIf hoj (hfree j oj hoj hji hjun hnot) (fun cs b => hsel i oi cs b hi) (fun cs b => hsel j oj cs b hoj) hy h1
   refine wpOpY_mono (fun a' w' h3 => ?_) h2
   obtain ⟨h4, h5, h6⟩ := h3
   rw [Array.setIfInBounds_comm _ _ (Ne.symm hji)] at h5 h6
   have hSj := hS2 _ _ h5
   refine ⟨hSj, wpAnyL_first hi hsel hS1 hS2 n _ a' w' ?_ (ready_mono hr (Ne.symm hji)) (hL.set hj) h4 hSj h6⟩
   intro k ok hk hki hun hno
   refine hfree k ok hk hki ?_ hno
   by_cases hjk : j = k
   ·subst hjk
    exact hjun
   ·rwa [getD_set_ne true hjk] at hun

theorem steps_region {id : Nat} {a : Act} {w : World} (h : wpOpsY P ops T (List.range ops.size) a w) (b : Frame) (k : List Item) (cs : List Frame) :
  ∃ a' w', T a' w' ∧ Steps P (lone (b.atR a (.code (.region id ops false) :: k)) cs w) (lone (b.atR a' k) cs w') :=
 let ⟨a', w', h1, s⟩ := steps_ops _ a w h b k cs
 ⟨a', w', h1, .head stepR_region s⟩

theorem steps_region_any {id : Nat} {a : Act} {w : World} (hm : P.follows .mixedOrders = true)
  (h : wpAnyL P .any ops T S ops.size (Array.replicate ops.size false) a { w with drawn := w.drawn + 1 }) (b : Frame) (k : List Item) (cs : List Frame) :
  ∃ a' w', T a' w' ∧ Steps P (lone (b.atR a (.code (.region id ops true) :: k)) cs w) (lone (b.atR a' k) cs w') := by
 have h2 : ∀ t, wpOpsY P ops T (Region.schedule (P.follows .mixedOrders) ops t) a { w with drawn := w.drawn + 1 } := fun t => by
  simp only [Region.schedule, hm, Bool.true_or, if_true]
  exact wpOps_of_L ops.size t _ a _ h
 obtain ⟨a', w', h1, s⟩ := steps_ops _ a _ (h2 _) b k cs
 exact ⟨a', w', h1, .head stepR_region_draw s⟩

end
end Go.Ev
