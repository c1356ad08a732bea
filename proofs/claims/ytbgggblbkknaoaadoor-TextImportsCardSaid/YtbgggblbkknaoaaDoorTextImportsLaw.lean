/- The row of the law TextImports: whatever the input, it returns true, and the input reads as it did. -/
import Derived.Test.YtbgggblbkknaoaaDoorRows
import Derived.Test.YtbgggblbkknaoaaDoorTextImportsWalk
import Derived.Test.YtbgggblbkknaoaaDoorEvRow
import Derived.WalkKit
import Derived.ProofKit
import Derived.OpenShut
import Derived.ShutString
import Derived.ChangeOld
import Derived.Below
import Derived.SizedLaws
import Derived.Deep.DeepHandedRow
import Derived.Test.YtbgggblbkknaoaaDoorCards
import Derived.Test.YtbgggblbkknaoaaDoorTie
namespace Go.Proofs.YtbgggblbkknaoaaDoor
open Go.Ev Go.ChangeShapes Go.WideShapes Go.ChangeAt Go.RowKit
set_option linter.unusedVariables false

theorem ownTextImports : ownKnob Tryd.prog.godebug = Option.none := by kernel_rfl
theorem laidOutTextImports : laidOutB Tryd.prog = true := by kernel_rfl

theorem tableTextImports {W : World} (h : laidMetH Tryd.prog Rows.textImportsRow.laid W) : Lib.TabIs Tryd.prog W "internal/strconv.uint64pow10" .u64 Lib.pow10Tab := by
  have h' : laidMet Tryd.prog [("math/bits.deBruijn32tab", Rows.laid_math_bits_deBruijn32tab), ("math/bits.deBruijn64tab", Rows.laid_math_bits_deBruijn64tab), ("internal/strconv.uint64pow10", Rows.laid_internal_strconv_uint64pow10), ("bytes.ErrTooLarge", Rows.laid_bytes_ErrTooLarge)] W := h.1
  obtain ⟨ps, hv, _⟩ := h'
  refine tabs_of_mem (g := 2) (t := 153) (e := 143) (n := 20) (by kernel_rfl) (by kernel_rfl) Tryd.underlying153 Tryd.underlying143 (by kernel_rfl) (by kernel_rfl) _ ps hv ?_
  exact List.mem_of_getElem? (i := 2) rfl

theorem etTextImports : Tryd.prog.globalNamed "errors.errorType" = some 0 := by kernel_rfl
theorem rtTextImports : (Tryd.prog.cutTypes.find? (·.1 == "internal/reflectlite.rtype")).map (·.2) = some 130 := by kernel_rfl
theorem sizeTextImports : Tryd.prog.types.size = 193 := by kernel_rfl
theorem oneRowTextImports : ((List.range 193).filter fun t => Tryd.prog.rowNamed t [101, 114, 114, 111, 114]) = [63] := by kernel_rfl
theorem handleTextImports {W : World} (h : laidMetH Tryd.prog Rows.textImportsRow.laid W) : W.cell? ⟨0, 0, none⟩ = some (.iface 130 (.agg #[.pointer (some ⟨5, 63, none⟩)])) := by
  have h' : handlesMet Tryd.prog [("errors.errorType", Rows.laid_errors_errorType)] W := h.2
  obtain ⟨name, u, ty, e1, e2, e3, e4, e5⟩ := h' _ (List.mem_singleton.2 rfl)
  have en : name = [101, 114, 114, 111, 114] := (Option.some.inj e1).symm
  subst en
  obtain rfl := Option.some.inj (rtTextImports.symm.trans e2)
  have hm : ty ∈ (List.range 193).filter fun t => Tryd.prog.rowNamed t [101, 114, 114, 111, 114] := List.mem_filter.2 ⟨List.mem_range.2 (by rw [← sizeTextImports]; exact e3), e4⟩
  rw [oneRowTextImports] at hm
  obtain rfl := List.mem_singleton.1 hm
  have hh : typeHandle Tryd.prog 63 = .pointer (some ⟨5, 63, none⟩) := by kernel_rfl
  rw [hh] at e5
  simpa using World.var?_cell etTextImports e5 0

set_option maxRecDepth 1000000 in
theorem contractTextImports [TabG] [TabsHold Tryd.prog] [CellHold ⟨0, 0, none⟩ (.iface 130 (.agg #[.pointer (some ⟨5, 63, none⟩)]))] (H : Type) (enc : TypeId × Value → H) (W : World) (ht : ∀ b o, TabG.blk b = some o → b < W.heap.size ∧ W.heap[b]? = some o) (base : Nat) (args : Array Value) (ds gs : List (DataW H)) (before : List MemPlace)
    (hval : ∀ (j : Nat) t v, Tryd.f4.params[j]? = some t → args[j]? = some v → Value.okWide Tryd.prog W .any base t v)
    (hW : DataW.Whole enc Tryd.prog Tryd.f4.params.toList Rows.textImportsSpec.vars false W args.toList ds gs before)
    (hsz0 : (DataW.weightsEach Tryd.prog (Tryd.f4.params.toList ++ (OpenSpec.ofChange Rows.textImportsSpec).bare.plain.varTypes Tryd.prog) (ds ++ gs)).all (· ≤ reachBytes) = true) :
    Calls Tryd.prog 4 args W fun e W2 => ∃ v, e = .returned v ∧ Rows.textImportsSpec.post enc Tryd.prog Tryd.f4 false true false false W args v W2 := by
  have hW2 := hW
  obtain ⟨p, q, hA0, hV, rfl, hfz, hnd⟩ := hW
  have hA : DataW.TrodAll enc Tryd.prog W 0 (fun _ => true) true Tryd.f4.params.toList args.toList ds p := hA0
  rw [Tryd.params4] at hA hval
  obtain ⟨v0, vs0, d0, ds0, p0, q0, hargs, rfl, rfl, h0, r0⟩ := trodAll_cons hA
  obtain ⟨rfl, rfl, rfl⟩ := trodAll_nil r0
  obtain rfl : args = #[v0] := by cases args; simp_all
  obtain ⟨rfl, rfl⟩ := trodVars_none hV
  have k0 := h0
  have lt0 : ∀ x ∈ p0, x.block < W.heap.size := by obtain ⟨m, hm⟩ := k0; exact DataW.trod_lt m _ _ _ hm
  obtain ⟨y0, w0, e0⟩ := open_arg (ty := (.sl 5 (.int .u8))) (by kernel_rfl) (by kernel_rfl) (hval 0 28 v0 rfl rfl) (small_of hsz0 0 (by kernel_rfl) rfl) h0
  have run : (S_tutorlaw08_TextImports @l_tutorlaw08_TextImports).run [argAV ((isAggT Tryd.prog 28).getD false) (.sl 5 (.int .u8)) y0] [] said = some true := by
    have e : (S_tutorlaw08_TextImports @l_tutorlaw08_TextImports).run [argAV ((isAggT Tryd.prog 28).getD false) (.sl 5 (.int .u8)) y0] [] said = l_tutorlaw08_TextImports y0 (fun r => some r) := by kernel_rfl
    exact e.trans (law_tutorlaw08_TextImports _ _ (wf_ok (by kernel_rfl) w0))
  have hrep : RepL W (okB (cx0 W) [] []) [] [argAV ((isAggT Tryd.prog 28).getD false) (.sl 5 (.int .u8)) y0] [v0] := ⟨rfl, fun i x y hx hy => by
    match i, hx, hy with
    | 0, hx, hy => cases hx; cases hy; exact e0
    | i + 1, hx, hy => simp at hx⟩
  refine (law_calls sound_tutorlaw08_TextImports hrep run ht).mono fun e W2 ⟨he, bel⟩ => ?_
  subst he
  exact ⟨_, rfl, _, _, _, [], _, [], hW2, trodAll_mk1 (shut_bool Tryd.underlying4 _), (trodAll_cons_mk (Below.trod laidOutTextImports (by kernel_rfl) (of_decide_eq_true (by kernel_rfl)) k0 bel lt0) trodAll_mk0), rfl, bel.frame _, fun h => by cases h⟩

/-- So many blocks has the settled world. -/
noncomputable def lowTextImports : Nat := (World.holding Tryd.prog default ⟨#[], #[], []⟩).heap.size
noncomputable def laidWorldTextImports (os : Os) : World :=
  let w0 := World.holding Tryd.prog os ⟨#[.cells #[.string { data := #[98, 121, 116, 101, 115, 46, 66, 117, 102, 102, 101, 114, 58, 32, 116, 111, 111, 32, 108, 97, 114, 103, 101] }] 181], #[], []⟩
  { w0 with heap := (((((w0.heap).modify 3 (setTab #[.int .u8 0, .int .u8 1, .int .u8 28, .int .u8 2, .int .u8 29, .int .u8 14, .int .u8 24, .int .u8 3, .int .u8 30, .int .u8 22, .int .u8 20, .int .u8 15, .int .u8 25, .int .u8 17, .int .u8 4, .int .u8 8, .int .u8 31, .int .u8 27, .int .u8 13, .int .u8 23, .int .u8 21, .int .u8 19, .int .u8 16, .int .u8 7, .int .u8 26, .int .u8 12, .int .u8 18, .int .u8 6, .int .u8 11, .int .u8 5, .int .u8 10, .int .u8 9])).modify 4 (setTab #[.int .u8 0, .int .u8 1, .int .u8 56, .int .u8 2, .int .u8 57, .int .u8 49, .int .u8 28, .int .u8 3, .int .u8 61, .int .u8 58, .int .u8 42, .int .u8 50, .int .u8 38, .int .u8 29, .int .u8 17, .int .u8 4, .int .u8 62, .int .u8 47, .int .u8 59, .int .u8 36, .int .u8 45, .int .u8 43, .int .u8 51, .int .u8 22, .int .u8 53, .int .u8 39, .int .u8 33, .int .u8 30, .int .u8 24, .int .u8 18, .int .u8 12, .int .u8 5, .int .u8 63, .int .u8 55, .int .u8 48, .int .u8 27, .int .u8 60, .int .u8 41, .int .u8 37, .int .u8 16, .int .u8 46, .int .u8 35, .int .u8 44, .int .u8 21, .int .u8 52, .int .u8 32, .int .u8 23, .int .u8 11, .int .u8 54, .int .u8 26, .int .u8 40, .int .u8 15, .int .u8 34, .int .u8 20, .int .u8 31, .int .u8 10, .int .u8 25, .int .u8 14, .int .u8 19, .int .u8 9, .int .u8 13, .int .u8 8, .int .u8 7, .int .u8 6])).modify 2 (setTab #[.int .u64 1, .int .u64 10, .int .u64 100, .int .u64 1000, .int .u64 10000, .int .u64 100000, .int .u64 1000000, .int .u64 10000000, .int .u64 100000000, .int .u64 1000000000, .int .u64 10000000000, .int .u64 100000000000, .int .u64 1000000000000, .int .u64 10000000000000, .int .u64 100000000000000, .int .u64 1000000000000000, .int .u64 10000000000000000, .int .u64 100000000000000000, .int .u64 1000000000000000000, .int .u64 10000000000000000000])).modify 1 (setTab #[.iface 161 (.pointer (some ⟨lowTextImports, 0, none⟩))])).modify 0 (setTab #[.iface 130 (.agg #[.pointer (some ⟨5, 63, none⟩)])]) }

theorem laid_metTextImports (os : Os) : laidMetH Tryd.prog Rows.textImportsRow.laid ((laidWorldTextImports os).forCall (fun _ _ => 0) ⟨#[], #[.slice none 0 0], []⟩).memory := laidMetH_of_parts (laidMet_of_run' 8 (by kernel_rfl) (by kernel_rfl)) (by kernel_rfl)
theorem readsTextImports (os : Os) {H : Type} (enc : TypeId × Value → H) : ∃ places, DataW.whole enc Tryd.prog ((laidWorldTextImports os).forCall (fun _ _ => 0) ⟨#[], #[.slice none 0 0], []⟩).memory Tryd.f4.params.toList Rows.textImportsSpec.vars false (#[.slice none 0 0] : Array Value).toList 8 = some ([.nil], [], places) :=
  ⟨[], by kernel_rfl⟩
set_option maxRecDepth 100000 in
theorem liftedTextImports (os : Os) (started : os.Started) (H : Type) (enc : TypeId × Value → H) (F : Stop.Interp) :
    ReturnsInHanded {} Tryd.checked os 4 .any ((OpenSpec.ofChange Rows.textImportsSpec).preRow enc Tryd.prog Tryd.f4 Rows.textImportsRow.domain false Rows.textImportsRow.laid) (((OpenSpec.ofChange Rows.textImportsSpec).at F).post enc Tryd.prog Tryd.f4 false true false false) := by
  obtain ⟨places, hx⟩ := readsTextImports os enc
  refine returnsInHanded_of_row (C := Tryd.checked) (s := OpenSpec.ofChange Rows.textImportsSpec) ownTextImports started (by kernel_rfl) Tryd.func4
    (witness_row_at (enc := enc) (C := Tryd.checked) false (laidWorldTextImports os) #[.slice none 0 0] rfl (by kernel_rfl) (by kernel_rfl) (by kernel_rfl)
      (OpenSpec.preRow_of_cond 8 hx (by kernel_rfl) (fun k hk => by cases hk) (by kernel_rfl) (laid_metTextImports os))) ?_
  intro W base args ds gs before hval hW _ _ hsz hL _ _
  exact @contractTextImports (tabG W [2, 0]) (tabs_hold (g := 2) (by kernel_rfl) (tableTextImports hL) rfl) (cell_hold (handleTextImports hL) rfl) H enc W (tabG_met W [2, 0]) base args ds gs before hval hW hsz
theorem saidTextImports : Rows.TextImportsSaid :=
  OpenClaim.holds_of_cond 4 Tryd.f4 rfl rfl rfl rfl rfl rfl rfl ⟨rfl, rfl, rfl, rfl, rfl⟩ rfl rfl rfl rfl rfl (by kernel_rfl) Tryd.func4 (by kernel_rfl)
    (of_decide_eq_true (by kernel_rfl)) (by unfold Func.isWrapper; first | (rw [if_pos (by decide +kernel)]; kernel_rfl) | (rw [if_neg (by decide +kernel)]; exact ⟨rfl, rfl⟩))
    (fun os started H enc _ F => by rw [OpenClaim.pre_eq_preRow]; exact liftedTextImports os started H enc F)
theorem plainTextImports (f : FuncId) (fn : Func) (hf : Tryd.pinned.checked.prog.funcNamed "tutor/tutorlaw08.TextImports" = some f) (hfn : Tryd.pinned.checked.prog.funcs[f]? = some fn) :
    true = Tryd.pinned.checked.prog.looks [] ∧ ∀ (j : Nat) t, fn.params[j]? = some t → Tryd.pinned.checked.prog.wantsStandIn t = false := by
  obtain rfl : f = 4 := Option.some.inj ((show Tryd.prog.funcNamed "tutor/tutorlaw08.TextImports" = some 4 by kernel_rfl).symm.trans hf) |>.symm
  obtain rfl : fn = Tryd.f4 := (Option.some.inj (Tryd.func4.symm.trans hfn)).symm
  refine ⟨by kernel_rfl, fun j t ht => ?_⟩
  rw [Tryd.params4] at ht
  match j, ht with
  | 0, ht => cases ht; exact (show Tryd.prog.wantsStandIn 28 = false by kernel_rfl)
  | j + 1, ht => simp at ht
theorem textImports_holds : Rows.TextImportsCardSaid :=
  Claim7.holds_tied_plain_at .later [] _ _ _ _ saidTextImports (fun _ h => by cases h) (by kernel_rfl) (fun _ h => by cases h) textImports_row_tie rfl ⟨rfl, rfl⟩ (by kernel_rfl) rfl plainTextImports (by kernel_rfl)

end Go.Proofs.YtbgggblbkknaoaaDoor
