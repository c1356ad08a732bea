/- Regions and whole functions. -/
import Derived.Test.YtjjdadbbiciigaaGreatDoorPoEvCall3
namespace Go.Ev
set_option linter.unusedVariables false
set_option linter.unusedSimpArgs false
set_option linter.unusedSectionVars false
variable [tG : TabG]

variable {P : Program} {R : Type} {cx : Cx} {β β' : List Value} {ob ob' : List O} {w w' : World} {σ σ' : St} {a a' : Act}
variable {o : Oper} {K : AV -> St -> Option R} {r : R} {Q : Exit -> Act -> World -> Prop} {Γ : FuncId -> Option Sum}

def Callable (P : Program) (f : FuncId) : Prop := ∃ fn, P.funcs[f]? = some fn ∧ fn.body.isSome = true ∧ (fn.name == "runtime.NumGoroutine") = false

def Right (P : Program) (Γ : FuncId -> Option Sum) : Prop := ∀ f S, Γ f = some S -> Callable P f ∧ Sound P f S

theorem run_method {t : TypeId} {nm : String} {f : FuncId} {v : Value} (h : methodOf P t nm = some f) (w : World) : (Go.method (P.types.size + Made.depth) t v nm).run P w = .ok (f, v) w := by
 have hn : P.types.size + Made.depth = (P.types.size + (Made.depth - 1)) + 1 := by
  have : 0 < Made.depth := by decide
  omega
 rw [hn]
 unfold methodOf at h
 split at h
 ·rename_i i hi
  split at h
  ·rename_i m hm
   split at h
   ·rename_i f' ptr hp hf
    have hp' : m.path = #[] := by
     apply Array.toList_inj.1
     simpa using hp
    unfold isPtrO at h
    cases hu : P.underlying t with
    |none => rw [hu] at h; cases h
    |some d =>
     rw [hu] at h
     cases d <;> cases ptr <;> first
      |(cases h; done)
      |(cases h; simp [Go.method, typeInfo, hi, hm, hp', hf, follow, receiverAt, run_underlying hu, Place.get])
   ·cases h
  ·cases h
 ·cases h

theorem blankV_rep (hW : WRep cx β ob w) {f : AV -> Bool} {ok : Bool -> Nat -> Prop} {x : AV} {v : Value} (h : RepV w ok β x v) : RepV w ok β (blankV f ob x) v := by
 unfold blankV
 split
 ·cases h with
  |agg l vs hl h =>
   refine .agg _ _ (by simpa using hl) fun i x y hx hy => ?_
   obtain ⟨z, hz, rfl⟩ := get_map hx
   have hr := h i z y hz hy
   split
   ·rename_i hc
    exact .cel _ (one_cell hW (Bool.and_eq_true_iff.1 hc).2 hr)
   ·exact hr
 ·exact h

theorem blankA_rep (hW : WRep cx β ob w) {ok : Bool -> Nat -> Prop} (S : Sum) {args : List AV} {vs : List Value} (h : RepL w ok β args vs) : RepL w ok β (blankA S ob args) vs := by
 have all : ∀ f, RepL w ok β (args.map (blankV f ob)) vs := fun f => by
  refine ⟨by simpa using h.1, fun i x y hx hy => ?_⟩
  obtain ⟨z, hz, rfl⟩ := get_map hx
  exact blankV_rep hW (h.2 i z y hz hy)
 unfold blankA
 split
 ·exact all _
 ·split
  ·exact all _
  ·exact h

theorem wp_evCall {c : Call} (hΓ : Right P Γ) (ho : o.op = .call c) (g : Good cx β σ a w) (h : evCall P Γ c σ K = some r) : Goal P cx K r o (lvlDyn P Γ o σ) β σ a w Q := by
 unfold evCall at h
 split at h
 ·rename_i b hb
  have := wp_builtin (Q := Q) ho hb g h
  have e : lvlDyn P Γ o σ = bLvl b := by
   unfold lvlDyn
   rw [ho]
   simp only [hb]
  rw [e]
  exact this
 ·rename_i f hf
  split at h
  ·rename_i fid cap he
   split at h
   ·rename_i S hS
    obtain ⟨⟨fn, hfn, hbody, hname⟩, hsound⟩ := hΓ fid S hS
    have hx := g.ev f
    rw [he] at hx
    generalize hv : a.eval f = v at hx
    cases hx with
    |clo _ _ vs hl hc =>
     have hrep : RepL w (okB cx β σ.ob) β (c.args.toList.map σ.ev ++ cap) (c.args.toList.map a.eval ++ vs) := by
      refine ⟨by simp [hl], fun i x y hx hy => ?_⟩
      rw [List.getElem?_append] at hx hy
      simp only [List.length_map] at hx hy
      split at hx
      ·rename_i hi
       rw [if_pos hi] at hy
       obtain ⟨q, hq, rfl⟩ := get_map hx
       obtain ⟨q', hq', rfl⟩ := get_map hy
       rw [hq] at hq'
       obtain rfl := Option.some.inj hq'
       exact g.ev q
      ·rename_i hi
       rw [if_neg hi] at hy
       exact hc _ x y hx hy
     have hcall := call_sound hsound g (blankA_rep g.W S hrep) h
     have hrun : (execOp a.eval o).run P w = .ok (.enter fid (c.args.toList.map a.eval ++ vs).toArray) w := by
      have e1 : (c.args.map a.eval) ++ vs.toArray = (c.args.toList.map a.eval ++ vs).toArray := by
       rw [← List.append_toArray]
       congr 1
       cases c.args
       simp
      simp [execOp, ho, resolve, hf, hv, Deferred.ofValue, invoke, callFunc, hfn, hbody, hname, e1]
      rw [if_neg (by simpa using hname), if_neg (by intro e; rw [e] at hbody; cases hbody)]
     unfold Goal Oper.wp
     rw [hrun]
     refine Calls.mono hcall ?_
     rintro e w' ⟨v, x, σ', βF, rfl, hK, hres, hext, hsz, hkeep⟩
     have e : lvlDyn P Γ o σ = if (callL P S c.argTypes.toList (blankA S σ.ob (c.args.toList.map σ.ev ++ cap)) σ.ob).isEmpty then 0 else 2 := by
      unfold lvlDyn
      rw [ho]
      simp only [hf, he, hS]
     rw [e]
     refine ⟨x, v, σ', βF, hK, rfl, hres, ⟨hsz, fun b hb ht => hkeep b hb fun hp => ht ?_⟩, hext⟩
     split
     ·rename_i hemp
      obtain ⟨i, _, _, hi, _⟩ := hp
      rw [List.isEmpty_iff.1 hemp] at hi
      simp at hi
     ·exact hp.live
   ·cases h
  ·rename_i fid fst he
   split at h
   ·rename_i S hS
    obtain ⟨⟨fn, hfn, hbody, hname⟩, hsound⟩ := hΓ fid S hS
    have hx := g.ev f
    rw [he] at hx
    generalize hv : a.eval f = v at hx
    cases hx with
    |bnd _ _ vs hl hc =>
     have hrep : RepL w (okB cx β σ.ob) β (fst ++ c.args.toList.map σ.ev) (vs ++ c.args.toList.map a.eval) := by
      refine ⟨by simp [hl], fun i x y hx hy => ?_⟩
      rw [List.getElem?_append] at hx hy
      split at hx
      ·rename_i hi
       rw [if_pos (by omega)] at hy
       exact hc _ x y hx hy
      ·rename_i hi
       rw [if_neg (by omega)] at hy
       obtain ⟨q, hq, rfl⟩ := get_map hx
       obtain ⟨q', hq', rfl⟩ := get_map hy
       rw [hl, hq'] at hq
       obtain rfl := Option.some.inj hq
       exact g.ev q'
     have hcall := call_sound hsound g (blankA_rep g.W S hrep) h
     have hrun : (execOp a.eval o).run P w = .ok (.enter fid (vs ++ c.args.toList.map a.eval).toArray) w := by
      have e1 : vs.toArray ++ (c.args.map a.eval) = (vs ++ c.args.toList.map a.eval).toArray := by
       rw [← List.append_toArray]
       congr 1
       cases c.args
       simp
      simp [execOp, ho, resolve, hf, hv, Deferred.ofValue, invoke, callFunc, hfn, hbody, hname, e1]
      rw [if_neg (by simpa using hname), if_neg (by intro e; rw [e] at hbody; cases hbody)]
     unfold Goal Oper.wp
     rw [hrun]
     refine Calls.mono hcall ?_
     rintro e w' ⟨v, x, σ', βF, rfl, hK, hres, hext, hsz, hkeep⟩
     have e : lvlDyn P Γ o σ = 2 := by
      unfold lvlDyn
      rw [ho]
      simp only [hf, he]
     rw [e]
     exact ⟨x, v, σ', βF, hK, rfl, hres, ⟨hsz, fun b hb ht => hkeep b hb fun hp => ht hp.live⟩, hext.mono (by split <;> decide)⟩
   ·cases h
  ·cases h
 ·rename_i x nm hf
  split at h
  ·rename_i t y he
   split at h
   ·rename_i fid hm
    split at h
    ·rename_i S hS
     obtain ⟨⟨fn, hfn, hbody, hname⟩, hsound⟩ := hΓ fid S hS
     have hx := g.ev x
     rw [he] at hx
     generalize hv : a.eval x = v at hx
     cases hx with
     |ifc _ _ z hz =>
      have hrep : RepL w (okB cx β σ.ob) β (y :: c.args.toList.map σ.ev) (z :: c.args.toList.map a.eval) := by
       refine ⟨by simp, fun i p q hp hq => ?_⟩
       cases i with
       |zero =>
        simp at hp hq
        subst hp hq
        exact hz
       |succ i =>
        simp only [List.getElem?_cons_succ] at hp hq
        obtain ⟨p', hp', rfl⟩ := get_map hp
        obtain ⟨q', hq', rfl⟩ := get_map hq
        rw [hp'] at hq'
        obtain rfl := Option.some.inj hq'
        exact g.ev p'
      have hcall := call_sound hsound g (blankA_rep g.W S hrep) h
      have hrun : (execOp a.eval o).run P w = .ok (.enter fid (z :: c.args.toList.map a.eval).toArray) w := by
       have e1 : #[z] ++ (c.args.map a.eval) = (z :: c.args.toList.map a.eval).toArray := by
        cases c.args
        simp
       have e0 : (execOp a.eval o).run P w = (callFunc fid (#[z] ++ c.args.map a.eval)).run P w := by
        have e2 : (c.args.map a.eval).extract 0 c.args.size = c.args.map a.eval := by
         obtain ⟨l⟩ := c.args
         simp only [List.map_toArray, List.size_toArray, List.extract_toArray, List.extract_eq_take_drop, List.drop_zero, Nat.sub_zero]
         rw [List.take_of_length_le (by simp)]
        have e3 : (#[Value.iface t z] ++ c.args.map a.eval)[0]? = some (.iface t z) := by
         obtain ⟨l⟩ := c.args
         simp
        simp [execOp, ho, resolve, hf, hv, invoke, callMethod, run_method hm, e2, e3]
       rw [e0, e1]
       simp [callFunc, hfn, hbody, hname]
       rw [if_neg (by simpa using hname), if_neg (by intro e; rw [e] at hbody; cases hbody)]
      unfold Goal Oper.wp
      rw [hrun]
      refine Calls.mono hcall ?_
      rintro e w' ⟨v, x, σ', βF, rfl, hK, hres, hext, hsz, hkeep⟩
      have e : lvlDyn P Γ o σ = 2 := by
       unfold lvlDyn
       rw [ho]
       simp only [hf]
      rw [e]
      exact ⟨x, v, σ', βF, hK, rfl, hres, ⟨hsz, fun b hb ht => hkeep b hb fun hp => ht hp.live⟩, hext.mono (by split <;> decide)⟩
    ·cases h
   ·cases h
  ·cases h


theorem evOp_sound (hΓ : Right P Γ) (g : Good cx β σ a w) (h : evOp P Γ o σ K = some r) : Goal P cx K r o (lvlDyn P Γ o σ) β σ a w Q := by
 cases ho : o.op with
 |move x =>
  have e : lvlDyn P Γ o σ = 0 := by unfold lvlDyn; rw [ho]
  rw [e]
  exact wp_move ho g (by simpa only [evOp, ho] using h) 0
 |assign x => exact wp_assign ho g h _
 |pick c x y => exact (pu_pick ho g h).goal g _
 |alloc t => exact wp_alloc ho g h _
 |box t x => exact wp_box ho g h _
 |load t x => exact wp_load ho g h _
 |store t x y =>
  have e : lvlDyn P Γ o σ = 0 + 2 := by unfold lvlDyn; rw [ho]
  rw [e]
  exact wp_store ho g h 0
 |nilCheck x => exact (pu_nilCheck ho g h).goal g _
 |binOp op t x y u => exact (pu_binOp ho g h).goal g _
 |unOp op t x => exact (pu_unOp ho g h).goal g _
 |convert s d x => exact wp_convert ho g h _ fun ⟨i, hi⟩ e => by unfold lvlDyn; rw [ho]; subst e; simp only [hi, beq_self_eq_true]; exact Nat.le_refl _
 |fieldAddr s x f => exact (pu_fieldAddr ho g h).goal g _
 |field s x f => exact (pu_field ho g h).goal g _
 |extract x i => exact (pu_extract ho g h).goal g _
 |indexAddr t x i => exact (pu_indexAddr ho g h).goal g _
 |index t x i => exact (pu_index ho g h).goal g _
 |slice t x lo hi mx =>
  by_cases hn : ∃ i, σ.ev x = .nst i
  ·obtain ⟨i, hi⟩ := hn
   exact wp_sliceN ho g hi h _
  ·exact (pu_slice ho g (fun i e => hn ⟨i, e⟩) h).goal g _
 |build t ps => exact wp_build' ho g h _
 |buildSlice t n ps => exact wp_buildSlice' ho g h _
 |makeSlice t l c => exact wp_makeSlice ho g h _
 |makeInterface t x => exact (pu_makeInterface ho g h).goal g _
 |typeAssert x t u ok => exact (pu_typeAssert ho g h).goal g _
 |makeFunc fn first cap => exact (pu_makeFunc ho g h).goal g _
 |call c => exact wp_evCall hΓ ho g (by simpa only [evOp, ho] using h)
 |_ => simp only [evOp, ho] at h; cases h

/-! ### Regions -/

theorem guarded_ok {ops : List Oper} {K : Bool -> St -> Option R} (g : Good cx β σ a w) (h : guarded ops o σ K = some r) :
  ∃ σ', Good cx β σ' a w ∧ σ'.ob = σ.ob ∧ K (Region.wanted o (yielded ops.toArray a.tmps)) σ' = some r := by
 unfold guarded at h
 simp only [St.putK_eq] at h
 unfold Region.wanted
 split at h
 ·rename_i hg
  rw [hg]
  exact ⟨σ, g, rfl, h⟩
 ·rename_i gi want hg
  rw [hg]
  dsimp only
  split at h
  ·rename_i d hd
   have hy : yielded ops.toArray a.tmps gi = match a.tmps[d]? with | some (.bool b) => some b | _ => none := by
    unfold yielded
    have : ((ops.toArray[gi]?).bind (·.dst)) = some d := by simpa using hd
    rw [this]
    rfl
   have hslot : ∀ x, σ.fr[d]? = some x -> ∃ v, a.tmps[d]? = some v ∧ RepV w (okB cx β σ.ob) β x v := by
    intro x hx
    have hlt : d < a.tmps.size := by rw [← g.A.len]; exact get_lt hx
    refine ⟨a.tmps[d], by simp [hlt], ?_⟩
    have := g.A.rep d x hx
    simpa [hlt] using this
   split at h
   ·rename_i b hb
    obtain ⟨v, hv, hr⟩ := hslot _ hb
    have hvb := rep_v hr
    subst hvb
    rw [hv] at hy
    simp only at hy
    rw [hy]
    have hput : ∀ b', b' = b -> Good cx β (σ.put (some d) (.v (.bool b'))) a w := by
     rintro b' rfl
     refine ⟨g.W, ⟨by simp [St.put, g.A.len], fun i x hx => ?_, g.A.def_⟩⟩
     rcases mem_set hx with ⟨hne, hx⟩ | ⟨rfl, rfl, _⟩
     ·exact g.A.rep i x hx
     ·exact g.A.rep i _ hb
    rcases br_some h with ⟨rfl, h⟩ | ⟨rfl, h⟩
    ·exact ⟨_, hput true rfl, rfl, by
      have e : (some true == some want) = (want == true) := by cases want <;> rfl
      simp only [e]
      exact h⟩
    ·exact ⟨_, hput false rfl, rfl, by
      have e : (some false == some want) = (want == false) := by cases want <;> rfl
      simp only [e]
      exact h⟩
   ·rename_i q hb
    obtain ⟨v, hv, hr⟩ := hslot _ hb
    have hvb := rep_v hr
    subst hvb
    rw [hv] at hy
    simp only at hy
    rw [hy]
    exact ⟨σ, g, rfl, h⟩
   ·cases h
  ·cases h

theorem knowing_ok {ops : List Oper} {i : Nat} {K : St -> Option R} (g : Good cx β σ a w) (h : knowing ops i σ K = some r) :
  ∃ σ', Good cx β σ' a w ∧ σ'.ob = σ.ob ∧ K σ' = some r := by
 unfold knowing at h
 split at h
 ·exact guarded_ok (K := fun _ σ => K σ) g h
 ·cases h

def At (cx : Cx) (K : St -> Option R) (r : R) (a : Act) (w : World) : Prop := ∃ β σ, Good cx β σ a w ∧ K σ = some r

def AtEnd (cx : Cx) (K : St -> Option R) (r : R) : Exit -> Act -> World -> Prop
 |.normal, a, w => At cx K r a w
 |_, _, _ => False

theorem skip_good (g : Good cx β σ a w) (d : Option Tmp) : Good cx β (σ.put d (.v undef)) (a.put d undef) w :=
 Res.put ⟨g.W, g.A, .v _⟩ d

theorem evOps_sound {ops : List Oper} (hΓ : Right P Γ) : ∀ (os : List Oper) (k : Nat) (β : List Value) (σ : St) (a : Act) (w : World) (K : St -> Option R), (∀ j, os[j]? = ops[k + j]?) -> Good cx β σ a w -> evOps P Γ ops os σ K = some r →
  wpOps P ops.toArray (AtEnd cx K r) (List.range' k os.length) a w
 |[], k, β, σ, a, w, K, _, g, h => ⟨β, σ, g, h⟩
 |o :: os, k, β, σ, a, w, K, hops, g, h => by
  have h0 : ops.toArray[k]? = some o := by
   have := hops 0
   simp at this
   simpa using this.symm
  have hops' : ∀ j, os[j]? = ops[k + 1 + j]? := fun j => by
   have := hops (j + 1)
   simp at this
   rw [this]
   congr 1
   omega
  simp only [evOps, St.putK_eq] at h
  obtain ⟨σ', g', hob, hK⟩ := guarded_ok g h
  simp only [List.length_cons, List.range'_succ, wpOps, h0]
  cases hw : Region.wanted o (yielded ops.toArray a.tmps) with
  |true =>
   rw [hw] at hK
   rw [if_pos rfl]
   refine .inl (Oper.wp_mono ?_ (evOp_sound (Q := AtEnd cx K r) hΓ g' hK))
   rintro a' w' ⟨x, v, σ2, β2, h1, rfl, h2, _, _⟩
   exact evOps_sound hΓ os (k + 1) β2 _ _ w' K hops' (h2.put o.dst) h1
  |false =>
   rw [hw] at hK
   rw [if_neg (by simp)]
   exact evOps_sound hΓ os (k + 1) β _ _ w K hops' (skip_good g' o.dst) hK

end Go.Ev
