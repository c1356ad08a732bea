/- The row of the law TextOne: whatever the input, it returns true, and the input reads as it did. -/
import Derived.Test.YtbgggblbkknaoaaDoorRows
import Derived.Test.YtbgggblbkknaoaaDoorTextOneWalk
import Derived.Test.YtbgggblbkknaoaaDoorEvRow
import Derived.WalkKit
import Derived.ProofKit
import Derived.OpenShut
import Derived.ShutString
import Derived.ChangeOld
import Derived.Below
import Derived.SizedLaws
import Derived.Deep.DeepHandedRow
import Derived.Test.YtbgggblbkknaoaaDoorCards
import Derived.Test.YtbgggblbkknaoaaDoorTie
namespace Go.Proofs.YtbgggblbkknaoaaDoor
open Go.Ev Go.ChangeShapes Go.WideShapes Go.ChangeAt Go.RowKit
set_option linter.unusedVariables false

theorem ownTextOne : ownKnob Tryd.prog.godebug = Option.none := by kernel_rfl
theorem laidOutTextOne : laidOutB Tryd.prog = true := by kernel_rfl

theorem tableTextOne {W : World} (h : laidMetH Tryd.prog Rows.textOneRow.laid W) : Lib.TabIs Tryd.prog W "internal/strconv.uint64pow10" .u64 Lib.pow10Tab := by
  have h' : laidMet Tryd.prog [("math/bits.deBruijn32tab", Rows.laid_math_bits_deBruijn32tab), ("math/bits.deBruijn64tab", Rows.laid_math_bits_deBruijn64tab), ("internal/strconv.uint64pow10", Rows.laid_internal_strconv_uint64pow10), ("bytes.ErrTooLarge", Rows.laid_bytes_ErrTooLarge)] W := h.1
  obtain ⟨ps, hv, _⟩ := h'
  refine tabs_of_mem (g := 2) (t := 153) (e := 143) (n := 20) (by kernel_rfl) (by kernel_rfl) Tryd.underlying153 Tryd.underlying143 (by kernel_rfl) (by kernel_rfl) _ ps hv ?_
  exact List.mem_of_getElem? (i := 2) rfl

theorem etTextOne : Tryd.prog.globalNamed "errors.errorType" = some 0 := by kernel_rfl
theorem rtTextOne : (Tryd.prog.cutTypes.find? (·.1 == "internal/reflectlite.rtype")).map (·.2) = some 130 := by kernel_rfl
theorem sizeTextOne : Tryd.prog.types.size = 193 := by kernel_rfl
theorem oneRowTextOne : ((List.range 193).filter fun t => Tryd.prog.rowNamed t [101, 114, 114, 111, 114]) = [63] := by kernel_rfl
theorem handleTextOne {W : World} (h : laidMetH Tryd.prog Rows.textOneRow.laid W) : W.cell? ⟨0, 0, none⟩ = some (.iface 130 (.agg #[.pointer (some ⟨5, 63, none⟩)])) := by
  have h' : handlesMet Tryd.prog [("errors.errorType", Rows.laid_errors_errorType)] W := h.2
  obtain ⟨name, u, ty, e1, e2, e3, e4, e5⟩ := h' _ (List.mem_singleton.2 rfl)
  have en : name = [101, 114, 114, 111, 114] := (Option.some.inj e1).symm
  subst en
  obtain rfl := Option.some.inj (rtTextOne.symm.trans e2)
  have hm : ty ∈ (List.range 193).filter fun t => Tryd.prog.rowNamed t [101, 114, 114, 111, 114] := List.mem_filter.2 ⟨List.mem_range.2 (by rw [← sizeTextOne]; exact e3), e4⟩
  rw [oneRowTextOne] at hm
  obtain rfl := List.mem_singleton.1 hm
  have hh : typeHandle Tryd.prog 63 = .pointer (some ⟨5, 63, none⟩) := by kernel_rfl
  rw [hh] at e5
  simpa using World.var?_cell etTextOne e5 0

set_option maxRecDepth 1000000 in
theorem contractTextOne [TabG] [TabsHold Tryd.prog] [CellHold ⟨0, 0, none⟩ (.iface 130 (.agg #[.pointer (some ⟨5, 63, none⟩)]))] (H : Type) (enc : TypeId × Value → H) (W : World) (ht : ∀ b o, TabG.blk b = some o → b < W.heap.size ∧ W.heap[b]? = some o) (base : Nat) (args : Array Value) (ds gs : List (DataW H)) (before : List MemPlace)
    (hval : ∀ (j : Nat) t v, Tryd.f8.params[j]? = some t → args[j]? = some v → Value.okWide Tryd.prog W .any base t v)
    (hW : DataW.Whole enc Tryd.prog Tryd.f8.params.toList Rows.textOneSpec.vars false W args.toList ds gs before)
    (hsz0 : (DataW.weightsEach Tryd.prog (Tryd.f8.params.toList ++ (OpenSpec.ofChange Rows.textOneSpec).bare.plain.varTypes Tryd.prog) (ds ++ gs)).all (· ≤ reachBytes) = true) :
    Calls Tryd.prog 8 args W fun e W2 => ∃ v, e = .returned v ∧ Rows.textOneSpec.post enc Tryd.prog Tryd.f8 false true false false W args v W2 := by
  have hW2 := hW
  obtain ⟨p, q, hA0, hV, rfl, hfz, hnd⟩ := hW
  have hA : DataW.TrodAll enc Tryd.prog W 0 (fun _ => true) true Tryd.f8.params.toList args.toList ds p := hA0
  rw [Tryd.params8] at hA hval
  obtain ⟨v0, vs0, d0, ds0, p0, q0, hargs, rfl, rfl, h0, r0⟩ := trodAll_cons hA
  obtain ⟨v1, vs1, d1, ds1, p1, q1, rfl, rfl, rfl, h1, r1⟩ := trodAll_cons r0
  obtain ⟨rfl, rfl, rfl⟩ := trodAll_nil r1
  obtain rfl : args = #[v0, v1] := by cases args; simp_all
  obtain ⟨rfl, rfl⟩ := trodVars_none hV
  have k0 := h0
  have lt0 : ∀ x ∈ p0, x.block < W.heap.size := by obtain ⟨m, hm⟩ := k0; exact DataW.trod_lt m _ _ _ hm
  obtain ⟨y0, w0, e0⟩ := open_arg (ty := (.pr (.int .i64) (.pr (.int .i64) (.pr (.int .i64) (.pr (.int .i64) (.pr (.sl 3 (.int .i64)) (.sl 3 (.int .i64)))))))) (by kernel_rfl) (by kernel_rfl) (hval 0 24 v0 rfl rfl) (small_of hsz0 0 (by kernel_rfl) rfl) h0
  have k1 := h1
  have lt1 : ∀ x ∈ p1, x.block < W.heap.size := by obtain ⟨m, hm⟩ := k1; exact DataW.trod_lt m _ _ _ hm
  obtain ⟨y1, w1, e1⟩ := open_arg (ty := (.pr (.int .i64) (.pr (.int .i64) (.pr (.int .i64) (.pr (.int .i64) (.pr (.sl 3 (.int .i64)) (.sl 3 (.int .i64)))))))) (by kernel_rfl) (by kernel_rfl) (hval 1 24 v1 rfl rfl) (small_of hsz0 1 (by kernel_rfl) rfl) h1
  have run : (S_tutorlaw08_TextOne @l_tutorlaw08_TextOne).run [argAV ((isAggT Tryd.prog 24).getD false) (.pr (.int .i64) (.pr (.int .i64) (.pr (.int .i64) (.pr (.int .i64) (.pr (.sl 3 (.int .i64)) (.sl 3 (.int .i64))))))) y0, argAV ((isAggT Tryd.prog 24).getD false) (.pr (.int .i64) (.pr (.int .i64) (.pr (.int .i64) (.pr (.int .i64) (.pr (.sl 3 (.int .i64)) (.sl 3 (.int .i64))))))) y1] [] said = some true := by
    have e : (S_tutorlaw08_TextOne @l_tutorlaw08_TextOne).run [argAV ((isAggT Tryd.prog 24).getD false) (.pr (.int .i64) (.pr (.int .i64) (.pr (.int .i64) (.pr (.int .i64) (.pr (.sl 3 (.int .i64)) (.sl 3 (.int .i64))))))) y0, argAV ((isAggT Tryd.prog 24).getD false) (.pr (.int .i64) (.pr (.int .i64) (.pr (.int .i64) (.pr (.int .i64) (.pr (.sl 3 (.int .i64)) (.sl 3 (.int .i64))))))) y1] [] said = l_tutorlaw08_TextOne (y0.1) (y0.2.1) (y0.2.2.1) (y0.2.2.2.1) (y0.2.2.2.2.1) (y0.2.2.2.2.2) (y1.1) (y1.2.1) (y1.2.2.1) (y1.2.2.2.1) (y1.2.2.2.2.1) (y1.2.2.2.2.2) (fun r => some r) := by kernel_rfl
    exact e.trans (law_tutorlaw08_TextOne _ _ _ _ _ _ _ _ _ _ _ _ _ (wfI w0.1) (wfI w0.2.1) (wfI w0.2.2.1) (wfI w0.2.2.2.1) (wfL (by kernel_rfl) w0.2.2.2.2.1) (wfL (by kernel_rfl) w0.2.2.2.2.2) (wfI w1.1) (wfI w1.2.1) (wfI w1.2.2.1) (wfI w1.2.2.2.1) (wfL (by kernel_rfl) w1.2.2.2.2.1) (wfL (by kernel_rfl) w1.2.2.2.2.2))
  have hrep : RepL W (okB (cx0 W) [] []) [] [argAV ((isAggT Tryd.prog 24).getD false) (.pr (.int .i64) (.pr (.int .i64) (.pr (.int .i64) (.pr (.int .i64) (.pr (.sl 3 (.int .i64)) (.sl 3 (.int .i64))))))) y0, argAV ((isAggT Tryd.prog 24).getD false) (.pr (.int .i64) (.pr (.int .i64) (.pr (.int .i64) (.pr (.int .i64) (.pr (.sl 3 (.int .i64)) (.sl 3 (.int .i64))))))) y1] [v0, v1] := ⟨rfl, fun i x y hx hy => by
    match i, hx, hy with
    | 0, hx, hy => cases hx; cases hy; exact e0
    | 1, hx, hy => cases hx; cases hy; exact e1
    | i + 2, hx, hy => simp at hx⟩
  refine (law_calls sound_tutorlaw08_TextOne hrep run ht).mono fun e W2 ⟨he, bel⟩ => ?_
  subst he
  exact ⟨_, rfl, _, _, _, [], _, [], hW2, trodAll_mk1 (shut_bool Tryd.underlying4 _), (trodAll_cons_mk (Below.trod laidOutTextOne (by kernel_rfl) (of_decide_eq_true (by kernel_rfl)) k0 bel lt0) (trodAll_cons_mk (Below.trod laidOutTextOne (by kernel_rfl) (of_decide_eq_true (by kernel_rfl)) k1 bel lt1) trodAll_mk0)), rfl, bel.frame _, fun h => by cases h⟩

/-- So many blocks has the settled world. -/
noncomputable def lowTextOne : Nat := (World.holding Tryd.prog default ⟨#[], #[], []⟩).heap.size
noncomputable def laidWorldTextOne (os : Os) : World :=
  let w0 := World.holding Tryd.prog os ⟨#[.cells #[.string { data := #[98, 121, 116, 101, 115, 46, 66, 117, 102, 102, 101, 114, 58, 32, 116, 111, 111, 32, 108, 97, 114, 103, 101] }] 181], #[], []⟩
  { w0 with heap := (((((w0.heap).modify 3 (setTab #[.int .u8 0, .int .u8 1, .int .u8 28, .int .u8 2, .int .u8 29, .int .u8 14, .int .u8 24, .int .u8 3, .int .u8 30, .int .u8 22, .int .u8 20, .int .u8 15, .int .u8 25, .int .u8 17, .int .u8 4, .int .u8 8, .int .u8 31, .int .u8 27, .int .u8 13, .int .u8 23, .int .u8 21, .int .u8 19, .int .u8 16, .int .u8 7, .int .u8 26, .int .u8 12, .int .u8 18, .int .u8 6, .int .u8 11, .int .u8 5, .int .u8 10, .int .u8 9])).modify 4 (setTab #[.int .u8 0, .int .u8 1, .int .u8 56, .int .u8 2, .int .u8 57, .int .u8 49, .int .u8 28, .int .u8 3, .int .u8 61, .int .u8 58, .int .u8 42, .int .u8 50, .int .u8 38, .int .u8 29, .int .u8 17, .int .u8 4, .int .u8 62, .int .u8 47, .int .u8 59, .int .u8 36, .int .u8 45, .int .u8 43, .int .u8 51, .int .u8 22, .int .u8 53, .int .u8 39, .int .u8 33, .int .u8 30, .int .u8 24, .int .u8 18, .int .u8 12, .int .u8 5, .int .u8 63, .int .u8 55, .int .u8 48, .int .u8 27, .int .u8 60, .int .u8 41, .int .u8 37, .int .u8 16, .int .u8 46, .int .u8 35, .int .u8 44, .int .u8 21, .int .u8 52, .int .u8 32, .int .u8 23, .int .u8 11, .int .u8 54, .int .u8 26, .int .u8 40, .int .u8 15, .int .u8 34, .int .u8 20, .int .u8 31, .int .u8 10, .int .u8 25, .int .u8 14, .int .u8 19, .int .u8 9, .int .u8 13, .int .u8 8, .int .u8 7, .int .u8 6])).modify 2 (setTab #[.int .u64 1, .int .u64 10, .int .u64 100, .int .u64 1000, .int .u64 10000, .int .u64 100000, .int .u64 1000000, .int .u64 10000000, .int .u64 100000000, .int .u64 1000000000, .int .u64 10000000000, .int .u64 100000000000, .int .u64 1000000000000, .int .u64 10000000000000, .int .u64 100000000000000, .int .u64 1000000000000000, .int .u64 10000000000000000, .int .u64 100000000000000000, .int .u64 1000000000000000000, .int .u64 10000000000000000000])).modify 1 (setTab #[.iface 161 (.pointer (some ⟨lowTextOne, 0, none⟩))])).modify 0 (setTab #[.iface 130 (.agg #[.pointer (some ⟨5, 63, none⟩)])]) }

theorem laid_metTextOne (os : Os) : laidMetH Tryd.prog Rows.textOneRow.laid ((laidWorldTextOne os).forCall (fun _ _ => 0) ⟨#[], #[.agg #[.int .i64 0, .int .i64 0, .int .i64 0, .int .i64 0, .slice none 0 0, .slice none 0 0], .agg #[.int .i64 0, .int .i64 0, .int .i64 0, .int .i64 0, .slice none 0 0, .slice none 0 0]], []⟩).memory := laidMetH_of_parts (laidMet_of_run' 8 (by kernel_rfl) (by kernel_rfl)) (by kernel_rfl)
theorem readsTextOne (os : Os) {H : Type} (enc : TypeId × Value → H) : ∃ places, DataW.whole enc Tryd.prog ((laidWorldTextOne os).forCall (fun _ _ => 0) ⟨#[], #[.agg #[.int .i64 0, .int .i64 0, .int .i64 0, .int .i64 0, .slice none 0 0, .slice none 0 0], .agg #[.int .i64 0, .int .i64 0, .int .i64 0, .int .i64 0, .slice none 0 0, .slice none 0 0]], []⟩).memory Tryd.f8.params.toList Rows.textOneSpec.vars false (#[.agg #[.int .i64 0, .int .i64 0, .int .i64 0, .int .i64 0, .slice none 0 0, .slice none 0 0], .agg #[.int .i64 0, .int .i64 0, .int .i64 0, .int .i64 0, .slice none 0 0, .slice none 0 0]] : Array Value).toList 8 = some ([.agg [.lit (.int .i64 0), .lit (.int .i64 0), .lit (.int .i64 0), .lit (.int .i64 0), .nil, .nil], .agg [.lit (.int .i64 0), .lit (.int .i64 0), .lit (.int .i64 0), .lit (.int .i64 0), .nil, .nil]], [], places) :=
  ⟨[], by kernel_rfl⟩
set_option maxRecDepth 100000 in
theorem liftedTextOne (os : Os) (started : os.Started) (H : Type) (enc : TypeId × Value → H) (F : Stop.Interp) :
    ReturnsInHanded {} Tryd.checked os 8 .any ((OpenSpec.ofChange Rows.textOneSpec).preRow enc Tryd.prog Tryd.f8 Rows.textOneRow.domain false Rows.textOneRow.laid) (((OpenSpec.ofChange Rows.textOneSpec).at F).post enc Tryd.prog Tryd.f8 false true false false) := by
  obtain ⟨places, hx⟩ := readsTextOne os enc
  refine returnsInHanded_of_row (C := Tryd.checked) (s := OpenSpec.ofChange Rows.textOneSpec) ownTextOne started (by kernel_rfl) Tryd.func8
    (witness_row_at (enc := enc) (C := Tryd.checked) false (laidWorldTextOne os) #[.agg #[.int .i64 0, .int .i64 0, .int .i64 0, .int .i64 0, .slice none 0 0, .slice none 0 0], .agg #[.int .i64 0, .int .i64 0, .int .i64 0, .int .i64 0, .slice none 0 0, .slice none 0 0]] rfl (by kernel_rfl) (by kernel_rfl) (by kernel_rfl)
      (OpenSpec.preRow_of_cond 8 hx (by kernel_rfl) (fun k hk => by cases hk) (by kernel_rfl) (laid_metTextOne os))) ?_
  intro W base args ds gs before hval hW _ _ hsz hL _ _
  exact @contractTextOne (tabG W [2, 0]) (tabs_hold (g := 2) (by kernel_rfl) (tableTextOne hL) rfl) (cell_hold (handleTextOne hL) rfl) H enc W (tabG_met W [2, 0]) base args ds gs before hval hW hsz
theorem saidTextOne : Rows.TextOneSaid :=
  OpenClaim.holds_of_cond 8 Tryd.f8 rfl rfl rfl rfl rfl rfl rfl ⟨rfl, rfl, rfl, rfl, rfl⟩ rfl rfl rfl rfl rfl (by kernel_rfl) Tryd.func8 (by kernel_rfl)
    (of_decide_eq_true (by kernel_rfl)) (by unfold Func.isWrapper; first | (rw [if_pos (by decide +kernel)]; kernel_rfl) | (rw [if_neg (by decide +kernel)]; exact ⟨rfl, rfl⟩))
    (fun os started H enc _ F => by rw [OpenClaim.pre_eq_preRow]; exact liftedTextOne os started H enc F)
theorem plainTextOne (f : FuncId) (fn : Func) (hf : Tryd.pinned.checked.prog.funcNamed "tutor/tutorlaw08.TextOne" = some f) (hfn : Tryd.pinned.checked.prog.funcs[f]? = some fn) :
    true = Tryd.pinned.checked.prog.looks [] ∧ ∀ (j : Nat) t, fn.params[j]? = some t → Tryd.pinned.checked.prog.wantsStandIn t = false := by
  obtain rfl : f = 8 := Option.some.inj ((show Tryd.prog.funcNamed "tutor/tutorlaw08.TextOne" = some 8 by kernel_rfl).symm.trans hf) |>.symm
  obtain rfl : fn = Tryd.f8 := (Option.some.inj (Tryd.func8.symm.trans hfn)).symm
  refine ⟨by kernel_rfl, fun j t ht => ?_⟩
  rw [Tryd.params8] at ht
  match j, ht with
  | 0, ht => cases ht; exact (show Tryd.prog.wantsStandIn 24 = false by kernel_rfl)
  | 1, ht => cases ht; exact (show Tryd.prog.wantsStandIn 24 = false by kernel_rfl)
  | j + 2, ht => simp at ht
theorem textOne_holds : Rows.TextOneCardSaid :=
  Claim7.holds_tied_plain_at .later [] _ _ _ _ saidTextOne (fun _ h => by cases h) (by kernel_rfl) (fun _ h => by cases h) textOne_row_tie rfl ⟨rfl, rfl⟩ (by kernel_rfl) rfl plainTextOne (by kernel_rfl)

end Go.Proofs.YtbgggblbkknaoaaDoor
