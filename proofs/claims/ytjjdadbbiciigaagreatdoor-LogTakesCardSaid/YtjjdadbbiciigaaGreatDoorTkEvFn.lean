/- Whole functions. -/
import Derived.Test.YtjjdadbbiciigaaGreatDoorTkEvRng
import Derived.Scope
namespace Go.Ev
set_option linter.unusedVariables false
set_option linter.unusedSimpArgs false
set_option linter.unusedSectionVars false
variable [tG : TabG] [lG : LoopG]

variable {P : Program} {R : Type} {cx : Cx} {β β' : List Value} {ob ob' : List O} {w w' : World} {σ σ' : St} {a a' : Act}
variable {o : Oper} {r : R} {Q : Exit -> Act -> World -> Prop} {Γ : FuncId -> Option Sum}

/-! ### The one loop over a function -/

def onlyRF (q : Nat × Array Tmp × Code × Code) : Code -> Prop
 |.seq a b => onlyRF q a ∧ onlyRF q b
 |.cond _ a b => onlyRF q a ∧ onlyRF q b
 |.block _ b => onlyRF q b
 |.loop b => onlyRF q b
 |.scope b => onlyRF q b
 |.rangeFunc _ ps a b => q.2 = (ps, a, b)
 |_ => True

def onlyI (q : Nat × Array Tmp × Code × Code) : Item -> Prop
 |.code c => onlyRF q c
 |.inLoop c => onlyRF q c
 |.inScope c => onlyRF q c
 |_ => True

theorem rf_none : ∀ (c : Code), rfCount c = 0 -> rfGet c = none ∧ ∀ q, onlyRF q c
 |.seq a b, h => by
  simp only [rfCount, Nat.add_eq_zero_iff] at h
  have ha := rf_none a h.1
  have hb := rf_none b h.2
  exact ⟨by simp [rfGet, ha.1, hb.1], fun q => ⟨ha.2 q, hb.2 q⟩⟩
 |.cond _ a b, h => by
  simp only [rfCount, Nat.add_eq_zero_iff] at h
  have ha := rf_none a h.1
  have hb := rf_none b h.2
  exact ⟨by simp [rfGet, ha.1, hb.1], fun q => ⟨ha.2 q, hb.2 q⟩⟩
 |.block _ b, h => rf_none b h
 |.loop b, h => rf_none b h
 |.scope b, h => rf_none b h
 |.rangeFunc _ ps a b, h => by cases h
 |.skip, _ => ⟨rfl, fun _ => trivial⟩
 |.region _ _ _, _ => ⟨rfl, fun _ => trivial⟩
 |.exit _, _ => ⟨rfl, fun _ => trivial⟩
 |.label _, _ => ⟨rfl, fun _ => trivial⟩
 |.goto _, _ => ⟨rfl, fun _ => trivial⟩
 |.ret, _ => ⟨rfl, fun _ => trivial⟩
 |.refuse _, _ => ⟨rfl, fun _ => trivial⟩

theorem rf_one : ∀ (c : Code) (q : Nat × Array Tmp × Code × Code), rfCount c = 1 -> rfGet c = some q.2 -> onlyRF q c
 |.seq a b, q, h, hq => by
  simp only [rfCount] at h
  rcases Nat.eq_zero_or_pos (rfCount a) with h0 | h0
  ·have ha := rf_none a h0
   simp only [rfGet, ha.1] at hq
   exact ⟨ha.2 q, rf_one b q (by omega) hq⟩
  ·have hb := rf_none b (by omega)
   simp only [rfGet] at hq
   cases hg : rfGet a with
   |none => rw [hg, hb.1] at hq; cases hq
   |some q' =>
    rw [hg] at hq
    obtain rfl := Option.some.inj hq
    exact ⟨rf_one a q (by omega) hg, hb.2 q⟩
 |.cond _ a b, q, h, hq => by
  simp only [rfCount] at h
  rcases Nat.eq_zero_or_pos (rfCount a) with h0 | h0
  ·have ha := rf_none a h0
   simp only [rfGet, ha.1] at hq
   exact ⟨ha.2 q, rf_one b q (by omega) hq⟩
  ·have hb := rf_none b (by omega)
   simp only [rfGet] at hq
   cases hg : rfGet a with
   |none => rw [hg, hb.1] at hq; cases hq
   |some q' =>
    rw [hg] at hq
    obtain rfl := Option.some.inj hq
    exact ⟨rf_one a q (by omega) hg, hb.2 q⟩
 |.block _ b, q, h, hq => rf_one b q h hq
 |.loop b, q, h, hq => rf_one b q h hq
 |.scope b, q, h, hq => rf_one b q h hq
 |.rangeFunc _ ps a b, q, h, hq => (Option.some.inj hq).symm
 |.skip, _, h, _ => by cases h
 |.region _ _ _, _, h, _ => by cases h
 |.exit _, _, h, _ => by cases h
 |.label _, _, h, _ => by cases h
 |.goto _, _, h, _ => by cases h
 |.ret, _, h, _ => by cases h
 |.refuse _, _, h, _ => by cases h

theorem rfOf_only {f : Nat} {fn : Func} {c : Code} {q : Nat × Array Tmp × Code × Code} (hf : P.funcs[f]? = some fn) (hb : fn.body = some c) (h : rfOf P f = some q) : onlyRF q c := by
 unfold rfOf at h
 rw [hf] at h
 simp only [hb] at h
 split at h
 ·rename_i hc
  split at h
  ·rename_i q2 hg
   obtain rfl := Option.some.inj h
   exact rf_one c _ (Nat.eq_of_beq_eq_true hc) hg
  ·cases h
 ·cases h

def OneLoop (P : Program) (cuts : Cuts) (k : List Item) : Prop :=
 ∀ key keep q, rfKey cuts = some (key, keep) -> rfOf P key = some q -> ∀ it ∈ k, onlyI q it

theorem exitTo_mem {id : Nat} : ∀ {k k' : List Item}, exitTo id k = some k' -> ∀ it ∈ k', it ∈ k
 |[], k', h => by simp [exitTo] at h
 |i :: k, k', h => by
  intro it hit
  cases i with
  |inBlock id' =>
   simp only [exitTo] at h
   split at h
   ·obtain rfl := Option.some.inj h
    exact List.mem_cons_of_mem _ hit
   ·exact List.mem_cons_of_mem _ (exitTo_mem h it hit)
  |_ =>
   simp only [exitTo] at h
   exact List.mem_cons_of_mem _ (exitTo_mem h it hit)

def KeyOk (P : Program) (cuts : Cuts) (f : Nat) : Prop := ∀ key keep, rfKey cuts = some (key, keep) -> key = f ∧ LoopG.code key = rfOf P key

theorem key_none {cuts : Cuts} {f : Nat} (h : rfKey cuts = none) : KeyOk P cuts f := fun key keep hk => by
 rw [h] at hk
 cases hk

def rfKeyN (cuts : Cuts) : Option Nat := (rfKey cuts).map (·.1)

theorem key_some {cuts : Cuts} {f : Nat} (h : rfKeyN cuts = some f) (hc : LoopG.code f = rfOf P f) : KeyOk P cuts f := fun key keep hk => by
 unfold rfKeyN at h
 rw [hk] at h
 obtain rfl : key = f := by simpa using h
 exact ⟨rfl, hc⟩

theorem findLabel_only {q : Nat × Array Tmp × Code × Code} {l : Nat} : ∀ {c rest : Code}, findLabel c l = some rest -> onlyRF q c -> onlyRF q rest
 |.seq a b, rest, h, hq => by
  simp only [findLabel] at h
  split at h
  ·rename_i r hr
   obtain rfl := Option.some.inj h
   exact ⟨findLabel_only hr hq.1, hq.2⟩
  ·exact findLabel_only h hq.2
 |.label l', rest, h, hq => by
  simp only [findLabel] at h
  split at h
  ·obtain rfl := Option.some.inj h
   trivial
  ·cases h
 |.cond _ _ _, _, h, _ => by cases h
 |.block _ _, _, h, _ => by cases h
 |.loop _, _, h, _ => by cases h
 |.scope _, _, h, _ => by cases h
 |.rangeFunc _ _ _ _, _, h, _ => by cases h
 |.skip, _, h, _ => by cases h
 |.region _ _ _, _, h, _ => by cases h
 |.exit _, _, h, _ => by cases h
 |.goto _, _, h, _ => by cases h
 |.ret, _, h, _ => by cases h
 |.refuse _, _, h, _ => by cases h

theorem gotoIn_only {q : Nat × Array Tmp × Code × Code} {l : Nat} : ∀ {k k' : List Item}, gotoIn l k = some k' -> (∀ it ∈ k, onlyI q it) -> ∀ it ∈ k', onlyI q it
 |[], k', h, _ => by simp [gotoIn] at h
 |i :: k, k', h, hq => by
  cases i with
  |inScope body =>
   simp only [gotoIn] at h
   split at h
   ·rename_i rest hr
    obtain rfl := Option.some.inj h
    intro it hit
    rcases List.mem_cons.1 hit with rfl | hit
    ·exact findLabel_only hr (hq (.inScope body) List.mem_cons_self)
    ·exact hq it hit
   ·exact gotoIn_only h fun it hit => hq it (List.mem_cons_of_mem _ hit)
  |_ =>
   simp only [gotoIn] at h
   exact gotoIn_only h fun it hit => hq it (List.mem_cons_of_mem _ hit)

theorem runI_sound {cuts : Cuts} {np : Nat} {cutK : List Item -> St -> Option R} {retK : St -> Option R} {T : Act -> World -> Prop} {b : Frame} {cs : List Frame} (hm : P.follows .mixedOrders = true) (hΓ : Right P Γ) (hp : cx.b0.length ≤ np)
  (hb : b.roundOf = none) (hk : KeyOk P cuts b.fn)
  (hret : ∀ β σ a w, @Good tG lG ⟨[]⟩ cx β σ a w -> retK σ = some r -> T a w)
  (hcut : ∀ k β σ a w, OneLoop P cuts k -> @Good tG lG ⟨[]⟩ cx β σ a w -> cutK k σ = some r -> Ends P b cs T (lone (b.at a k) cs w)) :
  ∀ (s : Nat) (k : List Item) (β : List Value) (σ : St) (a : Act) (w : World), OneLoop P cuts k -> @Good tG lG ⟨[]⟩ cx β σ a w -> runI P Γ cuts np cutK retK s k σ = some r -> Ends P b cs T (lone (b.at a k) cs w)
 |0, k, β, σ, a, w, hi, g, h => by simp [runI] at h
 |s + 1, [], β, σ, a, w, hi, g, h => ⟨a, w, hret β σ a w g (by simpa [runI] using h), [], .one step_end⟩
 |s + 1, .inBlock id :: k, β, σ, a, w, hi, g, h => .of_steps (.one step_inBlock) (runI_sound hm hΓ hp hb hk hret hcut s k β σ a w (fun key keep q h1 h2 it h => hi key keep q h1 h2 it (List.mem_cons_of_mem _ h)) g (by simpa [runI] using h))
 |s + 1, .inScope c :: k, β, σ, a, w, hi, g, h => .of_steps (.one step_inScope) (runI_sound hm hΓ hp hb hk hret hcut s k β σ a w (fun key keep q h1 h2 it h => hi key keep q h1 h2 it (List.mem_cons_of_mem _ h)) g (by simpa [runI] using h))
 |s + 1, .inLoop c :: k, β, σ, a, w, hi, g, h => .of_steps (.one step_inLoop) (runI_sound hm hΓ hp hb hk hret hcut s _ β σ a w (fun key keep q h1 h2 it h => by
   rcases List.mem_cons.1 h with rfl | h
   ·exact hi key keep q h1 h2 (.inLoop c) List.mem_cons_self
   ·exact hi key keep q h1 h2 it h) g (by simpa [runI] using h))
 |s + 1, .code c :: k, β, σ, a, w, hi, g, h => by
  letI dG : DfG := ⟨[]⟩
  have htl : ∀ key keep q, rfKey cuts = some (key, keep) -> rfOf P key = some q -> ∀ it ∈ k, onlyI q it := fun key keep q h1 h2 it h => hi key keep q h1 h2 it (List.mem_cons_of_mem _ h)
  have hhd : ∀ key keep q, rfKey cuts = some (key, keep) -> rfOf P key = some q -> onlyRF q c := fun key keep q h1 h2 => hi key keep q h1 h2 (.code c) List.mem_cons_self
  have cons1 : ∀ (i1 : Item), (∀ key keep q, rfKey cuts = some (key, keep) -> rfOf P key = some q -> onlyI q i1) -> OneLoop P cuts (i1 :: k) := fun i1 h0 key keep q h1 h2 it h => by
   rcases List.mem_cons.1 h with rfl | h
   ·exact h0 key keep q h1 h2
   ·exact htl key keep q h1 h2 it h
  have cons2 : ∀ (i1 i2 : Item), (∀ key keep q, rfKey cuts = some (key, keep) -> rfOf P key = some q -> onlyI q i1) -> (∀ key keep q, rfKey cuts = some (key, keep) -> rfOf P key = some q -> onlyI q i2) -> OneLoop P cuts (i1 :: i2 :: k) := fun i1 i2 h0 h0' key keep q h1 h2 it h => by
   rcases List.mem_cons.1 h with rfl | h
   ·exact h0 key keep q h1 h2
   ·exact cons1 i2 h0' key keep q h1 h2 it h
  cases c with
  |skip => exact .of_steps (.one step_skip) (runI_sound hm hΓ hp hb hk hret hcut s k β σ a w htl g (by simpa [runI] using h))
  |region id ops draw =>
   simp only [runI] at h
   split at h
   ·rename_i keep hf
    obtain ⟨β', g'⟩ := g.clean hp keep.2
    exact hcut _ β' _ a w hi g' h
   ·obtain ⟨a', w', ⟨β', σ', g', h'⟩, hs⟩ := region_sound (id := id) hm hΓ g h b k cs
    rw [Frame.atR_of_none hb, Frame.atR_of_none hb] at hs
    exact .of_steps hs (runI_sound hm hΓ hp hb hk hret hcut s k β' σ' a' w' htl g' h')
  |seq x y => exact .of_steps (.one step_seq) (runI_sound hm hΓ hp hb hk hret hcut s _ β σ a w (cons2 _ _ (fun key keep q h1 h2 => (hhd key keep q h1 h2).1) (fun key keep q h1 h2 => (hhd key keep q h1 h2).2)) g (by simpa [runI] using h))
  |cond c x y =>
   simp only [runI] at h
   split at h
   ·rename_i t he
    have hc := g.ev c
    rw [he] at hc
    have hc := rep_v hc
    rcases br_some h with ⟨rfl, h⟩ | ⟨rfl, h⟩
    ·exact .of_steps (.one (step_cond hc)) (runI_sound hm hΓ hp hb hk hret hcut s _ β _ a w (cons1 _ fun key keep q h1 h2 => (hhd key keep q h1 h2).1) (g.know hc) h)
    ·exact .of_steps (.one (step_cond hc)) (runI_sound hm hΓ hp hb hk hret hcut s _ β _ a w (cons1 _ fun key keep q h1 h2 => (hhd key keep q h1 h2).2) (g.know hc) h)
   ·cases h
  |block id c => exact .of_steps (.one step_block) (runI_sound hm hΓ hp hb hk hret hcut s _ β σ a w (cons2 _ _ (fun key keep q h1 h2 => hhd key keep q h1 h2) fun _ _ _ _ _ => trivial) g (by simpa [runI] using h))
  |scope c => exact .of_steps (.one step_scope) (runI_sound hm hΓ hp hb hk hret hcut s _ β σ a w (cons2 _ _ (fun key keep q h1 h2 => hhd key keep q h1 h2) fun key keep q h1 h2 => hhd key keep q h1 h2) g (by simpa [runI] using h))
  |goto l =>
   simp only [runI] at h
   split at h
   ·rename_i k' hk'
    exact .of_steps (.one (step_goto hk')) (runI_sound hm hΓ hp hb hk hret hcut s k' β σ a w (fun key keep q h1 h2 => gotoIn_only hk' (htl key keep q h1 h2)) g h)
   ·cases h
  |label l => exact .of_steps (.one step_label) (runI_sound hm hΓ hp hb hk hret hcut s k β σ a w htl g (by simpa [runI] using h))
  |loop c => exact .of_steps (.one step_loop) (runI_sound hm hΓ hp hb hk hret hcut s _ β σ a w (cons2 _ _ (fun key keep q h1 h2 => hhd key keep q h1 h2) fun key keep q h1 h2 => hhd key keep q h1 h2) g (by simpa [runI] using h))
  |exit id =>
   simp only [runI] at h
   split at h
   ·rename_i k' hk'
    exact .of_steps (.one (step_exit hk')) (runI_sound hm hΓ hp hb hk hret hcut s k' β σ a w (fun key keep q h1 h2 it h => htl key keep q h1 h2 it (exitTo_mem hk' it h)) g h)
   ·cases h
  |ret => exact ⟨a, w, hret β σ a w g (by simpa [runI] using h), _, .one step_ret⟩
  |rangeFunc g0 ps asg body =>
   simp only [runI] at h
   exact evRange_sound hm hΓ hb (fun key keep q h1 h2 => ⟨(hk key keep h1).1.symm, hhd key keep q h1 h2, (hk key keep h1).2.trans h2⟩) hret g h
  |_ => simp [runI] at h
 |s + 1, .inRegion _ _ :: k, β, σ, a, w, hi, g, h => by simp [runI] at h

theorem runSeg_sound {cuts : Cuts} {np : Nat} {cutK : List Item -> St -> Option R} {retK : St -> Option R} {T : Act -> World -> Prop} {b : Frame} {cs : List Frame} (hm : P.follows .mixedOrders = true) (hΓ : Right P Γ) (hp : cx.b0.length ≤ np)
  (hb : b.roundOf = none) (hk : KeyOk P cuts b.fn)
  (hret : ∀ β σ a w, @Good tG lG ⟨[]⟩ cx β σ a w -> retK σ = some r -> T a w)
  (hcut : ∀ k β σ a w, OneLoop P cuts k -> @Good tG lG ⟨[]⟩ cx β σ a w -> cutK k σ = some r -> Ends P b cs T (lone (b.at a k) cs w)) (k : List Item) (hi : OneLoop P cuts k) (g : @Good tG lG ⟨[]⟩ cx β σ a w) (h : runSeg P Γ cuts np cutK retK k σ = some r) : Ends P b cs T (lone (b.at a k) cs w) := by
 letI dG : DfG := ⟨[]⟩
 unfold runSeg at h
 split at h
 ·obtain ⟨a', w', ⟨β', σ', g', h'⟩, hs⟩ := region_sound hm hΓ g h b _ cs
  rw [Frame.atR_of_none hb, Frame.atR_of_none hb] at hs
  exact .of_steps hs (runI_sound hm hΓ hp hb hk hret hcut 3000 _ β' σ' a' w' (fun key keep q h1 h2 it h => hi key keep q h1 h2 it (List.mem_cons_of_mem _ h)) g' h')
 ·cases h

theorem runO_sound {cuts : Cuts} {np : Nat} {retK : St -> Option R} {T : Act -> World -> Prop} {b : Frame} {cs : List Frame} (hm : P.follows .mixedOrders = true) (hΓ : Right P Γ) (hp : cx.b0.length ≤ np)
  (hb : b.roundOf = none) (hk : KeyOk P cuts b.fn)
  (hret : ∀ β σ a w, @Good tG lG ⟨[]⟩ cx β σ a w -> retK σ = some r -> T a w) : ∀ (n : Nat) (k : List Item) (β : List Value) (σ : St) (a : Act) (w : World), OneLoop P cuts k -> @Good tG lG ⟨[]⟩ cx β σ a w -> runO P Γ cuts np retK n k σ = some r -> Ends P b cs T (lone (b.at a k) cs w)
 |0, k, β, σ, a, w, hi, g, h => by cases h
 |n + 1, k, β, σ, a, w, hi, g, h => runSeg_sound hm hΓ hp hb hk hret (fun k β σ a w hi g h => runO_sound hm hΓ hp hb hk hret n k β σ a w hi g h) k hi g h

theorem fn_sound' {cuts : Cuts} {f : FuncId} {fn : Func} {S : Sum} (hm : P.follows .mixedOrders = true) (hΓ : Right P Γ) (hf : P.funcs[f]? = some fn)
  (hS : ∀ {R : Type} (K : AV -> List O -> Option R) (r : R) (args : List AV) (ob : List O), S.run args ob K = some r -> ∀ (vals : List Value) (w : World) (ok : Bool -> Nat -> Prop) (β : List Value), RepL w ok β args vals →
   ∃ args', RepL w ok β args' vals ∧ args'.length ≤ fn.ntmps ∧ ∃ n, fnRun P Γ cuts fn n args' ob K = some r)
  (hk : KeyOk P cuts f := by first | exact key_none (by decide) | exact key_some (by decide) rfl) : Sound P f S := by
 letI dG : DfG := ⟨[]⟩
 intro R K r args0 ob h vals w β rho pb disj hW hr0 cs
 obtain ⟨args, hr, hlen, n, hrun⟩ := hS K r args0 ob h vals w _ β hr0
 unfold fnRun at hrun
 split at hrun
 ·rename_i c hb
  have hlv : vals.length = args.length := hr.1.symm
  let b : Frame := { (default : Frame) with fn := f, kind := .normal }
  have hinv : OneLoop P cuts [.code c] := fun key keep q h1 h2 it hit => by
   obtain rfl := List.mem_singleton.1 hit
   obtain ⟨rfl, _⟩ := hk key keep h1
   exact rfOf_only hf hb h2
  have henter : Frame.enter P f vals.toArray .normal = b.at { tmps := vals.toArray ++ Array.replicate (fn.ntmps - vals.toArray.size) undef, defers := [] } [.code c] := by
   simp [Frame.enter, Frame.at, hf, hb, b]
  have g : Good ⟨w, rho, pb, β, disj⟩ β ⟨frm fn.ntmps args, ob⟩ { tmps := vals.toArray ++ Array.replicate (fn.ntmps - vals.toArray.size) undef, defers := [] } w := by
   refine ⟨hW, ⟨by simp [frm, hlv], fun i x hx => ?_, rfl⟩⟩
   unfold frm at hx
   rw [List.getElem?_append] at hx
   have e : ((vals.toArray ++ Array.replicate (fn.ntmps - vals.toArray.size) undef).getD i undef) = if i < vals.length then vals.getD i undef else undef := by
    simp only [Array.getD_eq_getD_getElem?, Array.getElem?_append, List.size_toArray]
    split
    ·simp [List.getD_eq_getElem?_getD]
    ·rw [Array.getElem?_replicate]
     split <;> rfl
   rw [e]
   split at hx
   ·rename_i hi
    rw [if_pos (by omega)]
    have hi' : i < vals.length := by omega
    have := hr.2 i x vals[i] hx (List.getElem?_eq_getElem hi')
    rw [List.getD_eq_getElem?_getD, List.getElem?_eq_getElem hi']
    exact this
   ·rename_i hi
    rw [if_neg (by omega)]
    rw [List.getElem?_replicate] at hx
    split at hx
    ·obtain rfl := Option.some.inj hx
     exact .v _
    ·cases hx
  have hp : (⟨w, rho, pb, β, disj⟩ : Cx).b0.length ≤ ob.length := by
   show β.length ≤ ob.length
   rw [hW.len]
   exact Nat.le_refl _
  have hret : ∀ β' σ a w', Good ⟨w, rho, pb, β, disj⟩ β' σ a w' -> finish P fn ob.length K σ = some r -> Done P ⟨w, rho, pb, β, disj⟩ fn K r a w' := fun β' σ a w' g h => finish_ok hp g h
  obtain ⟨a', w', ⟨hd, v, x, ob', β', h1, h2, h3, h4⟩, todo, hs⟩ := runI_sound (b := b) (cs := cs) hm hΓ hp rfl hk hret (fun k β σ a w hi g h => runO_sound hm hΓ hp rfl hk hret n k β σ a w hi g h) 3000 [.code c] β _ _ w hinv g hrun
  rw [henter]
  exact ⟨.returned v, w', _, ⟨v, x, ob', β', rfl, h2, h3, h4⟩, hs, rfl, rfl, hd, rfl, fn, hf, h1⟩
 ·cases hrun

theorem fn_sound {cuts : Cuts} {f : FuncId} {fn : Func} {S : Sum} (hm : P.follows .mixedOrders = true) (hΓ : Right P Γ) (hf : P.funcs[f]? = some fn)
  (hS : ∀ {R : Type} (K : AV -> List O -> Option R) (r : R) (args : List AV) (ob : List O), S.run args ob K = some r -> args.length ≤ fn.ntmps ∧ ∃ n, fnRun P Γ cuts fn n args ob K = some r)
  (hk : KeyOk P cuts f := by first | exact key_none (by decide) | exact key_some (by decide) rfl) : Sound P f S :=
 fn_sound' hm hΓ hf (fun K r args ob h vals w ok β hr => ⟨args, hr, (hS K r args ob h).1, (hS K r args ob h).2⟩) hk

/-! ### Summaries, gathered -/

def addS (Γ : FuncId -> Option Sum) (f : FuncId) (S : Sum) : FuncId -> Option Sum := fun g => if g = f then some S else Γ g

theorem right_add {f : FuncId} {S : Sum} (h : Right P Γ) (hc : Callable P f) (hs : Sound P f S) (hy : S.yl = false := by rfl) : Right P (addS Γ f S) := by
 intro g T hT
 unfold addS at hT
 split at hT
 ·rename_i e
  subst e
  obtain rfl := Option.some.inj hT
  rw [if_neg (by rw [hy]; exact Bool.false_ne_true)]
  exact ⟨hc, hs⟩
 ·exact h g T hT

abbrev iv (x : Int) : AV := .v (.int .i64 x)
abbrev wi (n : TypeId) (x : List Int) : O := .row ⟨true, n, .int .i64, x⟩
abbrev wb (n : TypeId) (x : List Int) : O := .row ⟨true, n, .int .u8, x⟩
abbrev ri (n : TypeId) (x : List Int) : AV := .rd ⟨false, n, .int .i64, x⟩
abbrev rb (n : TypeId) (x : List Int) : AV := .rd ⟨false, n, .int .u8, x⟩

end Go.Ev
