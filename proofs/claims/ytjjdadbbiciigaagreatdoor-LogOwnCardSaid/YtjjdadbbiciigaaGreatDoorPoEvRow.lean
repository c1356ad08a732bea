/- From a law's arguments, as they come in, to the abstract machine's, and from its answer to the row. -/
import Derived.Test.YtjjdadbbiciigaaGreatDoorPoEvFn
import Derived.Test.YtjjdadbbiciigaaGreatDoorPoEvPure
import Derived.ProofKit
import Derived.ChangeArms
import Derived.SizedLaws
namespace Go.Ev
open Go.ChangeShapes Go.WideShapes Go.ChangeAt Go.RowKit
set_option linter.unusedVariables false
set_option linter.unusedSimpArgs false
set_option linter.unusedSectionVars false
variable [TabG]

variable {P : Program} {H : Type} {enc : TypeId × Value -> H} {w : World} {base : Nat} {spare : Nat -> Bool} {held : Bool}

def Wf (P : Program) : (t : Ty) -> t.S -> Prop
 |.int k, n => (Lit.int k n).wf = true
 |.bool, _ => True
 |.str, s => s.size ≤ reachBytes
 |.sl e t, xs => xs.length * P.bytesOf e ≤ reachBytes ∧ ∀ x ∈ xs, Wf P t x
 |.pr a b, x => Wf P a x.1 ∧ Wf P b x.2

def fieldsOk (P : Program) (f : TypeId -> Bool) (total : Nat) : Nat -> List Field -> Bool
 |o, [] => o == total
 |o, x :: xs => x.offset == o && f x.type && fieldsOk P f total (o + P.cellsOf x.type) xs

def laidT (P : Program) : Nat -> TypeId -> Bool
 |0, _ => false
 |n + 1, t => match P.underlying t with
  |some (.int _) | some .bool | some .string => true
  |some (.slice e) => laidT P n e
  |some (.struct fs) => fieldsOk P (laidT P n) (P.cellsOf t) 0 fs.toList
  |_ => false

theorem list_of {α : Type} {p : Nat -> α -> Prop} (d : α) : ∀ (n : Nat), (∀ i, i < n -> ∃ x, p i x) -> ∃ l : List α, l.length = n ∧ ∀ i x, l[i]? = some x -> p i x
 |0, _ => ⟨[], rfl, fun i x h => by simp at h⟩
 |n + 1, h => by
  obtain ⟨l, h1, h2⟩ := list_of d n fun i hi => h i (by omega)
  obtain ⟨x, hx⟩ := h n (by omega)
  refine ⟨l ++ [x], by simp [h1], fun i y hy => ?_⟩
  rw [List.getElem?_append] at hy
  split at hy
  ·exact h2 i y hy
  ·rename_i hi
   have : i = n := by
    have := get_lt hy
    simp at this
    omega
   subst this
   have e : y = x := by
    rw [h1] at hy
    simpa using hy.symm
   rw [e]
   exact hx

def Small (P : Program) (t : TypeId) (d : DataW H) : Prop := ∀ n ∈ d.weights P t, n ≤ reachBytes

theorem small_all {e : TypeId} : ∀ {l : List (DataW H)}, (∀ n ∈ DataW.weightsAll P e l, n ≤ reachBytes) -> ∀ d ∈ l, Small P e d
 |[], _, d, hd => by simp at hd
 |x :: l, h, d, hd => by
  simp only [DataW.weightsAll, List.mem_append] at h
  rcases List.mem_cons.1 hd with rfl | hd
  ·exact fun n hn => h n (.inl hn)
  ·exact small_all (fun n hn => h n (.inr hn)) d hd

theorem small_each : ∀ {ts : List TypeId} {l : List (DataW H)}, (∀ n ∈ DataW.weightsEach P ts l, n ≤ reachBytes) -> ∀ (i : Nat) (t : TypeId) (d : DataW H), ts[i]? = some t -> l[i]? = some d -> Small P t d
 |ts, l, h, i, t, d, ht, hd => fun n hn => h n (DataW.weights_mem_each ht hd n hn)

theorem small_of {ts : List TypeId} {ds : List (DataW H)} (h : (DataW.weightsEach P ts ds).all (· ≤ reachBytes) = true) (i : Nat) {t : TypeId} {d : DataW H} (ht : ts[i]? = some t) (hd : ds[i]? = some d) : Small P t d :=
 small_each (fun n hn => by simpa using List.all_eq_true.1 h n hn) i t d ht hd

theorem take_all {l : List Value} {n : Nat} (h : l.length ≤ n) : l.take n = l := List.take_of_length_le h

theorem fields_cel {ok : Nat -> Prop} {n fuel : Nat} {cs : List Value} {total : Nat} (hlen : cs.length = total) (ih : ∀ (t : TypeId) (ty : Ty) (cs : List Value) (x : DataW H × List MemPlace), tyOf P n t = some ty -> laidT P n t = true -> Small P t x.1 →
   DataW.trod enc P w base spare held fuel t cs = some x -> ∃ y : ty.S, Cel w ok ty y cs ∧ Wf P ty y) :
  ∀ (fs : List Field) (o : Nat) (ty : Ty), tyOf.tyAll (tyOf P n) fs = some ty -> fieldsOk P (laidT P n) total o fs = true →
   (∀ f ∈ fs, ∃ x, DataW.trod enc P w base spare held fuel f.type ((cs.drop f.offset).take (P.cellsOf f.type)) = some x ∧ Small P f.type x.1) -> ∃ y : ty.S, Cel w ok ty y (cs.drop o) ∧ Wf P ty y
 |[], o, ty, h, _, _ => by simp [tyOf.tyAll] at h
 |[f], o, ty, h, hf, hx => by
  simp only [tyOf.tyAll] at h
  simp only [fieldsOk, Bool.and_eq_true, beq_iff_eq] at hf
  obtain ⟨⟨ho, hl⟩, ht⟩ := hf
  obtain ⟨x, hx, hz⟩ := hx f (by simp)
  have e : (cs.drop f.offset).take (P.cellsOf f.type) = cs.drop o := by
   rw [ho]
   exact take_all (by rw [List.length_drop]; omega)
  rw [e] at hx
  exact ih f.type ty _ x h hl hz hx
 |f :: f2 :: fs, o, ty, h, hf, hx => by
  simp only [tyOf.tyAll] at h
  split at h
  ·rename_i a b ha hb
   obtain rfl := Option.some.inj h
   have hf' : f.offset = o ∧ laidT P n f.type = true ∧ fieldsOk P (laidT P n) total (o + P.cellsOf f.type) (f2 :: fs) = true := by
    rw [fieldsOk] at hf
    simp only [Bool.and_eq_true, beq_iff_eq] at hf
    exact ⟨hf.1.1, hf.1.2, hf.2⟩
   obtain ⟨ho, hl, ht⟩ := hf'
   obtain ⟨x, hx1, hz1⟩ := hx f (by simp)
   obtain ⟨y1, c1, w1⟩ := ih f.type a _ x ha hl hz1 hx1
   obtain ⟨y2, c2, w2⟩ := fields_cel hlen ih (f2 :: fs) (o + P.cellsOf f.type) b hb ht fun g hg => hx g (List.mem_cons_of_mem _ hg)
   refine ⟨(y1, y2), ⟨_, _, ?_, c1, c2⟩, w1, w2⟩
   rw [ho, ← List.drop_drop]
   exact (List.take_append_drop _ _).symm
  ·cases h

theorem trod_cel {ok : Nat -> Prop} (hok : ∀ b, ok b) : ∀ (n fuel : Nat) (t : TypeId) (ty : Ty) (cs : List Value) (x : DataW H × List MemPlace), tyOf P n t = some ty -> laidT P n t = true -> Small P t x.1 →
  DataW.trod enc P w base spare held fuel t cs = some x -> ∃ y : ty.S, Cel w ok ty y cs ∧ Wf P ty y
 |0, _, _, _, _, _, h, _, _, _ => by simp [tyOf] at h
 |_ + 1, 0, _, _, _, _, _, _, _, h => by simp [DataW.trod] at h
 |n + 1, fuel + 1, t, ty, cs, x, hty, hl, hz, h => by
  have h0 := h
  unfold tyOf at hty
  unfold laidT at hl
  split at hty
  ·rename_i k hu
   obtain rfl := Option.some.inj hty
   obtain ⟨m, rfl, _, hw⟩ := DataW.trod_int hu h0
   exact ⟨m, rfl, hw⟩
  ·rename_i hu
   obtain rfl := Option.some.inj hty
   obtain ⟨b, rfl, _⟩ := DataW.trod_bool hu h0
   exact ⟨b, rfl, trivial⟩
  ·rename_i hu
   obtain rfl := Option.some.inj hty
   obtain ⟨s, rfl, hx, hw⟩ := DataW.trod_string hu h0
   refine ⟨s, rfl, ?_⟩
   rw [hx] at hz
   have := hz _ (List.mem_singleton.2 rfl)
   show s.size ≤ reachBytes
   simpa using this
  ·rename_i e hu
   rw [hu] at hl
   dsimp only at hl
   cases he : tyOf P n e with
   |none => rw [he] at hty; cases hty
   |some te =>
    rw [he] at hty
    obtain rfl := Option.some.inj hty
    rcases DataW.trod_slice hu h0 with ⟨rfl, _⟩ | ⟨a, len, cap, elems, rest, m, hm, rfl, hxe, _, hlc, hcm, hlen, hel, _, _⟩
    ·exact ⟨[], ⟨none, 0, rfl, Nat.le_refl _, fun h => absurd h (Nat.lt_irrefl 0)⟩, by show 0 * _ ≤ _; rw [Nat.zero_mul]; exact Nat.zero_le _, fun x hx => by simp at hx⟩
    ·obtain rfl : m = fuel := by omega
     have hz' : ∀ n ∈ DataW.weights P t (DataW.slice (elems.map (·.1)) (rest.map (·.1))), n ≤ reachBytes := by
      rw [hxe] at hz
      exact hz
     simp only [DataW.weights, hu] at hz'
     have hz1 : len * P.bytesOf e ≤ reachBytes := by
      have h1 := hz' _ List.mem_cons_self
      rw [List.length_map, hlen] at h1
      exact Nat.le_trans (Nat.mul_le_mul_right _ (Nat.le_add_right _ _)) h1
     have hz2 : ∀ d ∈ elems.map (·.1), Small P e d := small_all fun n hn => hz' n (List.mem_cons_of_mem _ (List.mem_append_left _ hn))
     have each : ∀ i, i < len -> ∃ y : te.S, ∃ cs, Cel w ok te y cs ∧ Wf P te y ∧ ∀ (k : Nat) (u : Value), cs[k]? = some u -> w.cell? (a.add (i * te.sz + k)) = some u := by
      intro i hi
      have h1 := hel i hi
      have hi' : i < elems.length := by omega
      rw [List.getElem?_eq_getElem hi', Option.bind_eq_some_iff] at h1
      obtain ⟨cs, hc, ht⟩ := h1
      obtain ⟨_, hcl, hat⟩ := World.cells?_some hc
      obtain ⟨y, c1, w1⟩ := trod_cel hok n m e te cs _ he hl (hz2 _ (List.mem_map_of_mem (List.getElem_mem hi'))) ht
      have hsz := c1.len
      refine ⟨y, cs, c1, w1, fun k u hu => ?_⟩
      have := hat k (by have := get_lt hu; omega)
      rw [hu, add_add] at this
      rw [← hsz, hcl]
      exact this
     obtain ⟨xs, hxl, hxs⟩ := list_of (α := te.S) te.dflt len each
     refine ⟨xs, ⟨some a, cap, by rw [hxl], by omega, fun hn => ⟨a, rfl, hok _, fun j hj => ?_⟩⟩, by rw [hxl]; exact hz1, fun y hy => ?_⟩
     ·obtain ⟨cs, c1, _, c3⟩ := hxs j xs[j] (List.getElem?_eq_getElem hj)
      exact ⟨cs, ⟨_, List.getElem?_eq_getElem hj, c1⟩, c3⟩
     ·obtain ⟨i, hi⟩ := List.getElem?_of_mem hy
      obtain ⟨_, _, w1, _⟩ := hxs i y hi
      exact w1
  ·rename_i fs hu
   rw [hu] at hl
   dsimp only at hl
   obtain ⟨xs, m, hm, hxe, hlen, hxl, hf⟩ := DataW.trod_struct hu h0
   obtain rfl : m = fuel := by omega
   have := fields_cel (enc := enc) (w := w) (base := base) (spare := spare) (held := held) (ok := ok) (fuel := m) hlen (fun t ty cs x h1 h2 h3 h4 => trod_cel hok n m t ty cs x h1 h2 h3 h4) fs.toList 0 ty hty hl (fun f hf' => by
    obtain ⟨i, hi⟩ := List.getElem?_of_mem hf'
    have hi2 : fs[i]? = some f := by simpa using hi
    have h1 := hf i f hi2
    have hlt : i < xs.length := by
     rw [hxl]
     have := get_lt hi
     simpa using this
    rw [List.getElem?_eq_getElem hlt] at h1
    refine ⟨_, h1, ?_⟩
    have hz' : ∀ n ∈ DataW.weights P t (DataW.agg (xs.map (·.1))), n ≤ reachBytes := by
     rw [hxe] at hz
     exact hz
    simp only [DataW.weights, hu] at hz'
    refine small_each hz' i _ _ ?_ ?_
    ·rw [List.getElem?_map, hi]
     rfl
    ·rw [List.getElem?_map, List.getElem?_eq_getElem hlt]
     rfl)
   simpa using this
  ·cases hty

def argAV (agg : Bool) (ty : Ty) (y : ty.S) : AV :=
 match agg with
 |true => .agg (rei false ty y)
 |false => (rei false ty y).headD .un

def cx0 (W : World) : Cx := ⟨W, fun _ => True, fun _ => False, [], fun _ _ h => h⟩

theorem ok0 (W : World) (b : Nat) : okB (cx0 W) [] [] false b := ⟨fun ⟨i, o, x, h, _⟩ => by simp at h, .inr ⟨rfl, .inl trivial⟩⟩

theorem wrep0 (W : World) (ht : ∀ b o, TabG.blk b = some o -> b < W.heap.size ∧ W.heap[b]? = some o) : WRep (cx0 W) [] [] W where
 hs := Nat.le_refl _
 keep _ _ _ := rfl
 os := rfl
 tape := rfl
 out := rfl
 len := rfl
 pre i x h := h
 obj i o x h _ := by simp at h
 sep i j o o' x y b h _ _ _ _ _ _ _ := by simp at h
 own i o x b h _ _ _ := by simp at h
 tab b o h := ⟨(ht b o h).1, fun h => h, (ht b o h).2⟩

theorem open_arg {t : TypeId} {ty : Ty} {v : Value} {d : DataW H} {p : List MemPlace} {b0 : Nat} (hty : tyOf P 12 t = some ty) (hl : laidT P 12 t = true)
  (hv : Value.okWide P w .any b0 t v) (hz : Small P t d) (h : DataW.Trod enc P w base spare held t v d p) :
  ∃ y : ty.S, Wf P ty y ∧ RepV w (okB (cx0 w) [] []) [] (argAV ((isAggT P t).getD false) ty y) v := by
 obtain ⟨fuel, h⟩ := h
 obtain ⟨y, hc, hw⟩ := trod_cel (ok := okB (cx0 w) [] [] false) (ok0 w) 12 fuel t ty _ _ hty hl hz h
 refine ⟨y, hw, ?_⟩
 have hrep := rei_rep (β := []) (fl := false) (ok := okB (cx0 w) [] []) hc
 have one : v.cells = #[v] -> RepV w (okB (cx0 w) [] []) [] ((rei false ty y).headD .un) v := by
  intro e
  rw [e] at hrep
  have hl : (rei false ty y).length = 1 := hrep.1
  match hr : rei false ty y, hl with
  |[z], _ =>
   rw [hr] at hrep
   exact hrep.2 0 z v rfl rfl
 unfold isAggT
 cases hu : P.underlying t with
 |none =>
  unfold tyOf at hty
  rw [hu] at hty
  cases hty
 |some u =>
  unfold tyOf at hty
  rw [hu] at hty
  cases u <;> first
   |(cases hty; done)
   |(obtain ⟨n, rfl⟩ := okWide_int hu hv; exact one rfl)
   |(obtain ⟨n, rfl⟩ := okWide_bool hu hv; exact one rfl)
   |(obtain ⟨n, rfl⟩ := okWide_string hu hv; exact one rfl)
   |(obtain ⟨a, l, c, rfl⟩ := okWide_slice hu hv; exact one rfl)
   |(obtain ⟨cs, rfl, _⟩ := okWide_struct hu hv
     have e := RepV.agg (w := w) (ok := okB (cx0 w) [] []) (β := []) _ cs.toList hrep.1 hrep.2
     simpa [argAV] using e)

theorem wfI {n : Int} (h : Wf P (.int .i64) n) : inI n := by
 have h : (Lit.int .i64 n).wf = true := h
 simp [Lit.wf, IntKind.min, IntKind.max, IntKind.bits, IntKind.signed] at h
 unfold inI
 omega
theorem wfU {n : Int} (h : Wf P (.int .u64) n) : inU n := by
 have h : (Lit.int .u64 n).wf = true := h
 simp [Lit.wf, IntKind.min, IntKind.max, IntKind.bits, IntKind.signed] at h
 unfold inU
 omega
theorem wfL {e : TypeId} {l : List Int} (hb : P.bytesOf e = 8) (h : Wf P (.sl e (.int .i64)) l) : okW l := by
 have h1 : l.length * P.bytesOf e ≤ 140737488351232 := h.1
 rw [hb] at h1
 exact ⟨by omega, fun x hx => wfI (h.2 x hx)⟩

def Ok : (t : Ty) -> t.S -> Prop
 |.int .i64, n => inI n
 |.int .u64, n => inU n
 |.int k, n => (Lit.int k n).wf = true
 |.bool, _ => True
 |.str, s => s.size ≤ 140737488351232
 |.sl _ (.int .i64), xs => okW xs
 |.sl _ t, xs => xs.length ≤ 140737488351232 ∧ ∀ x ∈ xs, Ok t x
 |.pr a b, x => Ok a x.1 ∧ Ok b x.2

def bytesT (P : Program) : Ty -> Bool
 |.sl e t => decide (1 ≤ P.bytesOf e) && (t != .int .i64 || P.bytesOf e == 8) && bytesT P t
 |.pr a b => bytesT P a && bytesT P b
 |_ => true

theorem wf_ok : ∀ {t : Ty} {y : t.S}, bytesT P t = true -> Wf P t y -> Ok t y
 |.int .i64, n, _, h => wfI h
 |.int .u64, n, _, h => wfU h
 |.int .i8, n, _, h => h
 |.int .i16, n, _, h => h
 |.int .i32, n, _, h => h
 |.int .u8, n, _, h => h
 |.int .u16, n, _, h => h
 |.int .u32, n, _, h => h
 |.bool, _, _, _ => trivial
 |.str, s, _, h => h
 |.pr a b, x, hb, h => by
  have hb := Bool.and_eq_true_iff.1 hb
  exact ⟨wf_ok hb.1 h.1, wf_ok hb.2 h.2⟩
 |.sl e t, xs, hb, h => by
  have hb1 : (decide (1 ≤ P.bytesOf e) && (t != .int .i64 || P.bytesOf e == 8) && bytesT P t) = true := hb
  rw [Bool.and_eq_true, Bool.and_eq_true] at hb1
  obtain ⟨⟨h1, h2⟩, h3⟩ := hb1
  have h1 := of_decide_eq_true h1
  have hlen : xs.length * P.bytesOf e ≤ 140737488351232 := h.1
  have hlen' : xs.length ≤ 140737488351232 := Nat.le_trans (by simpa using Nat.mul_le_mul_left xs.length h1) hlen
  have hall : ∀ x ∈ xs, Ok t x := fun x hx => wf_ok h3 (h.2 x hx)
  match t, xs, h, hb, h2, h3, hlen, hlen', hall with
  |.int .i64, xs, h, _, h2, _, _, _, _ => exact wfL (by simpa using h2) h
  |.int .u64, _, _, _, _, _, _, hl, ha => exact ⟨hl, ha⟩
  |.int .i8, _, _, _, _, _, _, hl, ha => exact ⟨hl, ha⟩
  |.int .i16, _, _, _, _, _, _, hl, ha => exact ⟨hl, ha⟩
  |.int .i32, _, _, _, _, _, _, hl, ha => exact ⟨hl, ha⟩
  |.int .u8, _, _, _, _, _, _, hl, ha => exact ⟨hl, ha⟩
  |.int .u16, _, _, _, _, _, _, hl, ha => exact ⟨hl, ha⟩
  |.int .u32, _, _, _, _, _, _, hl, ha => exact ⟨hl, ha⟩
  |.bool, _, _, _, _, _, _, hl, ha => exact ⟨hl, ha⟩
  |.str, _, _, _, _, _, _, hl, ha => exact ⟨hl, ha⟩
  |.sl _ _, _, _, _, _, _, _, hl, ha => exact ⟨hl, ha⟩
  |.pr _ _, _, _, _, _, _, _, hl, ha => exact ⟨hl, ha⟩

def said (x : AV) (_ : List O) : Option Bool :=
 match x with
 |.v (.bool b) => some b
 |_ => none

theorem law_calls {f : FuncId} {S : Sum} {args : List AV} {vals : List Value} (hS : Sound P f S) (hr : RepL w (okB (cx0 w) [] []) [] args vals) (h : S.run args [] said = some true) (ht : ∀ b o, TabG.blk b = some o -> b < w.heap.size ∧ w.heap[b]? = some o := by intro b o h; cases h) :
  Calls P f vals.toArray w fun e w' => e = .returned (.bool true) ∧ Below w.heap.size w w' := by
 refine (hS said true args [] h vals w [] (fun _ => True) (fun _ => False) (fun _ _ h => h) (wrep0 w ht) hr).mono ?_
 rintro e w' ⟨v, x, ob', β', rfl, hK, hW, hx⟩
 refine ⟨?_, hW.os, hW.tape, hW.out, hW.hs, fun k hk => hW.keep k hk fun h => h⟩
 unfold said at hK
 split at hK
 ·obtain rfl := Option.some.inj hK
  rw [rep_v hx]
 ·cases hK

end Go.Ev
