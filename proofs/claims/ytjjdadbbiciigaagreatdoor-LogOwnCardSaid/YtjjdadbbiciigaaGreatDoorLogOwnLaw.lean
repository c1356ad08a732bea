/- The row of the law LogOwn: whatever the input, it returns true, and the input reads as it did. -/
import Derived.Test.YtjjdadbbiciigaaGreatDoorRows
import Derived.Test.YtjjdadbbiciigaaGreatDoorLogOwnWalk
import Derived.Test.YtjjdadbbiciigaaGreatDoorPoEvRow
import Derived.WalkKit
import Derived.ProofKit
import Derived.OpenShut
import Derived.ShutString
import Derived.ChangeOld
import Derived.Below
import Derived.SizedLaws
import Derived.Deep.DeepHandedRow
import Derived.Test.YtjjdadbbiciigaaGreatDoorCards
import Derived.Test.YtjjdadbbiciigaaGreatDoorTie
namespace Go.Proofs.YtjjdadbbiciigaaGreatDoor
open Go.Ev Go.ChangeShapes Go.WideShapes Go.ChangeAt Go.RowKit
set_option linter.unusedVariables false

theorem ownLogOwn : ownKnob Tryz.prog.godebug = Option.none := by kernel_rfl
theorem laidOutLogOwn : laidOutB Tryz.prog = true := by kernel_rfl

theorem tableLogOwn {W : World} (h : laidMetH Tryz.prog Rows.logOwnRow.laid W) : Lib.TabIs Tryz.prog W "internal/strconv.uint64pow10" .u64 Lib.pow10Tab := by
 have h' : laidMet Tryz.prog [("math/bits.deBruijn32tab", Rows.laid_math_bits_deBruijn32tab), ("math/bits.deBruijn64tab", Rows.laid_math_bits_deBruijn64tab), ("internal/strconv.uint64pow10", Rows.laid_internal_strconv_uint64pow10)] W := h.1
 obtain ⟨ps, hv, _⟩ := h'
 refine tabs_of_mem (g := 2) (t := 215) (e := 191) (n := 20) (by kernel_rfl) (by kernel_rfl) Tryz.underlying215 Tryz.underlying191 (by kernel_rfl) (by kernel_rfl) _ ps hv ?_
 exact List.mem_of_getElem? (i := 2) rfl

theorem etLogOwn : Tryz.prog.globalNamed "errors.errorType" = some 1 := by kernel_rfl
theorem rtLogOwn : (Tryz.prog.cutTypes.find? (·.1 == "internal/reflectlite.rtype")).map (·.2) = some 194 := by kernel_rfl
theorem sizeLogOwn : Tryz.prog.types.size = 292 := by kernel_rfl
theorem oneRowLogOwn : ((List.range 292).filter fun t => Tryz.prog.rowNamed t [101, 114, 114, 111, 114]) = [143] := by kernel_rfl
theorem handleLogOwn {W : World} (h : laidMetH Tryz.prog Rows.logOwnRow.laid W) : W.cell? ⟨1, 0, none⟩ = some (.iface 194 (.agg #[.pointer (some ⟨6, 143, none⟩)])) := by
 have h' : handlesMet Tryz.prog [("errors.errorType", Rows.laid_errors_errorType)] W := h.2
 obtain ⟨name, u, ty, e1, e2, e3, e4, e5⟩ := h' _ (List.mem_singleton.2 rfl)
 have en : name = [101, 114, 114, 111, 114] := (Option.some.inj e1).symm
 subst en
 obtain rfl := Option.some.inj (rtLogOwn.symm.trans e2)
 have hm : ty ∈ (List.range 292).filter fun t => Tryz.prog.rowNamed t [101, 114, 114, 111, 114] := List.mem_filter.2 ⟨List.mem_range.2 (by rw [← sizeLogOwn]; exact e3), e4⟩
 rw [oneRowLogOwn] at hm
 obtain rfl := List.mem_singleton.1 hm
 have hh : typeHandle Tryz.prog 143 = .pointer (some ⟨6, 143, none⟩) := by kernel_rfl
 rw [hh] at e5
 simpa using World.var?_cell etLogOwn e5 0

set_option maxRecDepth 1000000 in
theorem contractLogOwn [TabG] [TabsHold Tryz.prog] [CellHold ⟨1, 0, none⟩ (.iface 194 (.agg #[.pointer (some ⟨6, 143, none⟩)]))] [IntHold ⟨0, 0, none⟩] (H : Type) (enc : TypeId × Value -> H) (W : World) (ht : ∀ b o, TabG.blk b = some o -> b < W.heap.size ∧ W.heap[b]? = some o) (base : Nat) (args : Array Value) (ds gs : List (DataW H)) (before : List MemPlace)
  (hval : ∀ (j : Nat) t v, Tryz.f7.params[j]? = some t -> args[j]? = some v -> Value.okWide Tryz.prog W .any base t v)
  (hW : DataW.Whole enc Tryz.prog Tryz.f7.params.toList Rows.logOwnSpec.vars false W args.toList ds gs before)
  (hsz0 : (DataW.weightsEach Tryz.prog (Tryz.f7.params.toList ++ (OpenSpec.ofChange Rows.logOwnSpec).bare.plain.varTypes Tryz.prog) (ds ++ gs)).all (· ≤ reachBytes) = true) :
  Calls Tryz.prog 7 args W fun e W2 => ∃ v, e = .returned v ∧ Rows.logOwnSpec.post enc Tryz.prog Tryz.f7 false true false false W args v W2 := by
 have hW2 := hW
 obtain ⟨p, q, hA0, hV, rfl, hfz, hnd⟩ := hW
 have hA : DataW.TrodAll enc Tryz.prog W 0 (fun _ => true) true Tryz.f7.params.toList args.toList ds p := hA0
 rw [Tryz.params7] at hA hval
 obtain ⟨v0, vs0, d0, ds0, p0, q0, hargs, rfl, rfl, h0, r0⟩ := trodAll_cons hA
 obtain ⟨rfl, rfl, rfl⟩ := trodAll_nil r0
 obtain rfl : args = #[v0] := by cases args; simp_all
 obtain ⟨rfl, rfl⟩ := trodVars_none hV
 have k0 := h0
 have lt0 : ∀ x ∈ p0, x.block < W.heap.size := by obtain ⟨m, hm⟩ := k0; exact DataW.trod_lt m _ _ _ hm
 obtain ⟨y0, w0, e0⟩ := open_arg (ty := (.sl 5 (.int .u8))) (by kernel_rfl) (by kernel_rfl) (hval 0 34 v0 rfl rfl) (small_of hsz0 0 (by kernel_rfl) rfl) h0
 have run : (S_q29 @l_q29).run [argAV ((isAggT Tryz.prog 34).getD false) (.sl 5 (.int .u8)) y0] [] said = some true := by
  have e : (S_q29 @l_q29).run [argAV ((isAggT Tryz.prog 34).getD false) (.sl 5 (.int .u8)) y0] [] said = l_q29 y0 (fun r => some r) := by kernel_rfl
  exact e.trans (law_q29 _ _ (wf_ok (by kernel_rfl) w0))
 have hrep : RepL W (okB (cx0 W) [] []) [] [argAV ((isAggT Tryz.prog 34).getD false) (.sl 5 (.int .u8)) y0] [v0] := ⟨rfl, fun i x y hx hy => by
  match i, hx, hy with
  |0, hx, hy => cases hx; cases hy; exact e0
  |i + 1, hx, hy => simp at hx⟩
 refine (law_calls sound_q29 hrep run ht).mono fun e W2 ⟨he, bel⟩ => ?_
 subst he
 exact ⟨_, rfl, _, _, _, [], _, [], hW2, trodAll_mk1 (shut_bool Tryz.underlying4 _), (trodAll_cons_mk (Below.trod laidOutLogOwn (by kernel_rfl) (of_decide_eq_true (by kernel_rfl)) k0 bel lt0) trodAll_mk0), rfl, bel.frame _, fun h => by cases h⟩

noncomputable def laidWorldLogOwn (os : Os) : World :=
 let w0 := World.holding Tryz.prog os ⟨#[], #[], []⟩
 { w0 with heap := ((((w0.heap).modify 3 (setTab #[.int .u8 0, .int .u8 1, .int .u8 28, .int .u8 2, .int .u8 29, .int .u8 14, .int .u8 24, .int .u8 3, .int .u8 30, .int .u8 22, .int .u8 20, .int .u8 15, .int .u8 25, .int .u8 17, .int .u8 4, .int .u8 8, .int .u8 31, .int .u8 27, .int .u8 13, .int .u8 23, .int .u8 21, .int .u8 19, .int .u8 16, .int .u8 7, .int .u8 26, .int .u8 12, .int .u8 18, .int .u8 6, .int .u8 11, .int .u8 5, .int .u8 10, .int .u8 9])).modify 4 (setTab #[.int .u8 0, .int .u8 1, .int .u8 56, .int .u8 2, .int .u8 57, .int .u8 49, .int .u8 28, .int .u8 3, .int .u8 61, .int .u8 58, .int .u8 42, .int .u8 50, .int .u8 38, .int .u8 29, .int .u8 17, .int .u8 4, .int .u8 62, .int .u8 47, .int .u8 59, .int .u8 36, .int .u8 45, .int .u8 43, .int .u8 51, .int .u8 22, .int .u8 53, .int .u8 39, .int .u8 33, .int .u8 30, .int .u8 24, .int .u8 18, .int .u8 12, .int .u8 5, .int .u8 63, .int .u8 55, .int .u8 48, .int .u8 27, .int .u8 60, .int .u8 41, .int .u8 37, .int .u8 16, .int .u8 46, .int .u8 35, .int .u8 44, .int .u8 21, .int .u8 52, .int .u8 32, .int .u8 23, .int .u8 11, .int .u8 54, .int .u8 26, .int .u8 40, .int .u8 15, .int .u8 34, .int .u8 20, .int .u8 31, .int .u8 10, .int .u8 25, .int .u8 14, .int .u8 19, .int .u8 9, .int .u8 13, .int .u8 8, .int .u8 7, .int .u8 6])).modify 2 (setTab #[.int .u64 1, .int .u64 10, .int .u64 100, .int .u64 1000, .int .u64 10000, .int .u64 100000, .int .u64 1000000, .int .u64 10000000, .int .u64 100000000, .int .u64 1000000000, .int .u64 10000000000, .int .u64 100000000000, .int .u64 1000000000000, .int .u64 10000000000000, .int .u64 100000000000000, .int .u64 1000000000000000, .int .u64 10000000000000000, .int .u64 100000000000000000, .int .u64 1000000000000000000, .int .u64 10000000000000000000])).modify 1 (setTab #[.iface 194 (.agg #[.pointer (some ⟨6, 143, none⟩)])]) }

theorem laid_metLogOwn (os : Os) : laidMetH Tryz.prog Rows.logOwnRow.laid ((laidWorldLogOwn os).forCall (fun _ _ => 0) ⟨#[], #[.slice none 0 0], []⟩).memory := laidMetH_of_parts (laidMet_of_run' 8 (by kernel_rfl) (by kernel_rfl)) (by kernel_rfl)
theorem readsLogOwn (os : Os) {H : Type} (enc : TypeId × Value -> H) : ∃ places, DataW.whole enc Tryz.prog ((laidWorldLogOwn os).forCall (fun _ _ => 0) ⟨#[], #[.slice none 0 0], []⟩).memory Tryz.f7.params.toList Rows.logOwnSpec.vars false (#[.slice none 0 0] : Array Value).toList 8 = some ([.nil], [], places) :=
 ⟨[], by kernel_rfl⟩
set_option maxRecDepth 100000 in
theorem liftedLogOwn (os : Os) (started : os.Started) (H : Type) (enc : TypeId × Value -> H) (F : Stop.Interp) :
  ReturnsInHanded {} Tryz.checked os 7 .any ((OpenSpec.ofChange Rows.logOwnSpec).preRow enc Tryz.prog Tryz.f7 Rows.logOwnRow.domain false Rows.logOwnRow.laid) (((OpenSpec.ofChange Rows.logOwnSpec).at F).post enc Tryz.prog Tryz.f7 false true false false) := by
 obtain ⟨places, hx⟩ := readsLogOwn os enc
 refine returnsInHanded_of_row (C := Tryz.checked) (s := OpenSpec.ofChange Rows.logOwnSpec) ownLogOwn started (by kernel_rfl) Tryz.func7
  (witness_row_at (enc := enc) (C := Tryz.checked) false (laidWorldLogOwn os) #[.slice none 0 0] rfl (by kernel_rfl) (by kernel_rfl) (by kernel_rfl)
   (OpenSpec.preRow_of_cond 8 hx (by kernel_rfl) (fun k hk => by cases hk) (by kernel_rfl) (laid_metLogOwn os))) ?_
 intro W base args ds gs before hval hW _ _ hsz hL hSh _
 exact @contractLogOwn (tabG W [2, 1, 0]) (tabs_hold (g := 2) (by kernel_rfl) (tableLogOwn hL) rfl) (cell_hold (handleLogOwn hL) rfl) (int_hold (Tryz.lays185.s1_3 W hSh) rfl) H enc W (tabG_met W [2, 1, 0]) base args ds gs before hval hW hsz
theorem saidLogOwn : Rows.LogOwnSaid :=
 OpenClaim.holds_of_cond 7 Tryz.f7 rfl rfl rfl rfl rfl rfl rfl ⟨rfl, rfl, rfl, rfl, rfl⟩ rfl rfl rfl rfl rfl (by kernel_rfl) Tryz.func7 (by kernel_rfl)
  (of_decide_eq_true (by kernel_rfl)) (by unfold Func.isWrapper; first | (rw [if_pos (by decide +kernel)]; kernel_rfl) | (rw [if_neg (by decide +kernel)]; exact ⟨rfl, rfl⟩))
  (fun os started H enc _ F => by rw [OpenClaim.pre_eq_preRow]; exact liftedLogOwn os started H enc F)
theorem plainLogOwn (f : FuncId) (fn : Func) (hf : Tryz.pinned.checked.prog.funcNamed "tutor/tutorlaw27.LogOwn" = some f) (hfn : Tryz.pinned.checked.prog.funcs[f]? = some fn) :
  true = Tryz.pinned.checked.prog.looks [] ∧ ∀ (j : Nat) t, fn.params[j]? = some t -> Tryz.pinned.checked.prog.wantsStandIn t = false := by
 obtain rfl : f = 7 := Option.some.inj ((show Tryz.prog.funcNamed "tutor/tutorlaw27.LogOwn" = some 7 by kernel_rfl).symm.trans hf) |>.symm
 obtain rfl : fn = Tryz.f7 := (Option.some.inj (Tryz.func7.symm.trans hfn)).symm
 refine ⟨by kernel_rfl, fun j t ht => ?_⟩
 rw [Tryz.params7] at ht
 match j, ht with
 |0, ht => cases ht; exact (show Tryz.prog.wantsStandIn 34 = false by kernel_rfl)
 |j + 1, ht => simp at ht
theorem logOwn_holds : Rows.LogOwnCardSaid :=
 Claim7.holds_tied_plain_at .later [] _ _ _ _ saidLogOwn (fun _ h => by cases h) (by kernel_rfl) (fun _ h => by cases h) logOwn_row_tie rfl ⟨rfl, rfl⟩ (by kernel_rfl) rfl plainLogOwn (by kernel_rfl)

end Go.Proofs.YtjjdadbbiciigaaGreatDoor
