/- The row of the law DotApart: whatever the input, it returns true, and the input reads as it did. -/
import Derived.Test.YtghgpadmkdfanaaDoorRows
import Derived.Test.YtghgpadmkdfanaaDoorDotApartWalk
import Derived.Test.YtghgpadmkdfanaaDoorEvRow
import Derived.WalkKit
import Derived.ProofKit
import Derived.OpenShut
import Derived.ShutString
import Derived.ChangeOld
import Derived.Below
import Derived.SizedLaws
import Derived.Deep.DeepHandedRow
import Derived.Test.YtghgpadmkdfanaaDoorCards
import Derived.Test.YtghgpadmkdfanaaDoorTie
namespace Go.Proofs.YtghgpadmkdfanaaDoor
open Go.Ev Go.ChangeShapes Go.WideShapes Go.ChangeAt Go.RowKit
set_option linter.unusedVariables false

theorem ownDotApart : ownKnob Tryd.prog.godebug = Option.none := by kernel_rfl
theorem laidOutDotApart : laidOutB Tryd.prog = true := by kernel_rfl

theorem tableDotApart {W : World} (h : laidMetH Tryd.prog Rows.dotApartRow.laid W) : Lib.TabIs Tryd.prog W "internal/strconv.uint64pow10" .u64 Lib.pow10Tab := by
  have h' : laidMet Tryd.prog [("math/bits.deBruijn32tab", Rows.laid_math_bits_deBruijn32tab), ("math/bits.deBruijn64tab", Rows.laid_math_bits_deBruijn64tab), ("internal/strconv.uint64pow10", Rows.laid_internal_strconv_uint64pow10)] W := h
  obtain ⟨ps, hv, _⟩ := h'
  refine tabs_of_mem (g := 0) (t := 86) (e := 77) (n := 20) (by kernel_rfl) (by kernel_rfl) Tryd.underlying86 Tryd.underlying77 (by kernel_rfl) (by kernel_rfl) _ ps hv ?_
  exact List.mem_of_getElem? (i := 2) rfl

set_option maxRecDepth 1000000 in
theorem contractDotApart [TabG] [TabsHold Tryd.prog] (H : Type) (enc : TypeId × Value → H) (W : World) (ht : ∀ b o, TabG.blk b = some o → b < W.heap.size ∧ W.heap[b]? = some o) (base : Nat) (args : Array Value) (ds gs : List (DataW H)) (before : List MemPlace)
    (hval : ∀ (j : Nat) t v, Tryd.f4.params[j]? = some t → args[j]? = some v → Value.okWide Tryd.prog W .any base t v)
    (hW : DataW.Whole enc Tryd.prog Tryd.f4.params.toList Rows.dotApartSpec.vars false W args.toList ds gs before)
    (hsz0 : (DataW.weightsEach Tryd.prog (Tryd.f4.params.toList ++ (OpenSpec.ofChange Rows.dotApartSpec).bare.plain.varTypes Tryd.prog) (ds ++ gs)).all (· ≤ reachBytes) = true) :
    Calls Tryd.prog 4 args W fun e W2 => ∃ v, e = .returned v ∧ Rows.dotApartSpec.post enc Tryd.prog Tryd.f4 false true false false W args v W2 := by
  have hW2 := hW
  obtain ⟨p, q, hA0, hV, rfl, hfz, hnd⟩ := hW
  have hA : DataW.TrodAll enc Tryd.prog W 0 (fun _ => true) true Tryd.f4.params.toList args.toList ds p := hA0
  rw [Tryd.params4] at hA hval
  obtain ⟨v0, vs0, d0, ds0, p0, q0, hargs, rfl, rfl, h0, r0⟩ := trodAll_cons hA
  obtain ⟨v1, vs1, d1, ds1, p1, q1, rfl, rfl, rfl, h1, r1⟩ := trodAll_cons r0
  obtain ⟨v2, vs2, d2, ds2, p2, q2, rfl, rfl, rfl, h2, r2⟩ := trodAll_cons r1
  obtain ⟨rfl, rfl, rfl⟩ := trodAll_nil r2
  obtain rfl : args = #[v0, v1, v2] := by cases args; simp_all
  obtain ⟨rfl, rfl⟩ := trodVars_none hV
  have k0 := h0
  have lt0 : ∀ x ∈ p0, x.block < W.heap.size := by obtain ⟨m, hm⟩ := k0; exact DataW.trod_lt m _ _ _ hm
  obtain ⟨y0, w0, e0⟩ := open_arg (ty := (.pr (.int .i64) (.pr (.int .i64) (.pr (.int .i64) (.pr (.int .i64) (.pr (.sl 3 (.int .i64)) (.sl 3 (.int .i64)))))))) (by kernel_rfl) (by kernel_rfl) (hval 0 24 v0 rfl rfl) (small_of hsz0 0 (by kernel_rfl) rfl) h0
  have k1 := h1
  have lt1 : ∀ x ∈ p1, x.block < W.heap.size := by obtain ⟨m, hm⟩ := k1; exact DataW.trod_lt m _ _ _ hm
  obtain ⟨y1, w1, e1⟩ := open_arg (ty := (.pr (.int .i64) (.pr (.int .i64) (.pr (.int .i64) (.pr (.int .i64) (.pr (.sl 3 (.int .i64)) (.sl 3 (.int .i64)))))))) (by kernel_rfl) (by kernel_rfl) (hval 1 24 v1 rfl rfl) (small_of hsz0 1 (by kernel_rfl) rfl) h1
  have k2 := h2
  have lt2 : ∀ x ∈ p2, x.block < W.heap.size := by obtain ⟨m, hm⟩ := k2; exact DataW.trod_lt m _ _ _ hm
  obtain ⟨y2, w2, e2⟩ := open_arg (ty := (.sl 21 (.int .i32))) (by kernel_rfl) (by kernel_rfl) (hval 2 25 v2 rfl rfl) (small_of hsz0 2 (by kernel_rfl) rfl) h2
  have run : (S_tutorlaw09_DotApart @l_tutorlaw09_DotApart).run [argAV ((isAggT Tryd.prog 24).getD false) (.pr (.int .i64) (.pr (.int .i64) (.pr (.int .i64) (.pr (.int .i64) (.pr (.sl 3 (.int .i64)) (.sl 3 (.int .i64))))))) y0, argAV ((isAggT Tryd.prog 24).getD false) (.pr (.int .i64) (.pr (.int .i64) (.pr (.int .i64) (.pr (.int .i64) (.pr (.sl 3 (.int .i64)) (.sl 3 (.int .i64))))))) y1, argAV ((isAggT Tryd.prog 25).getD false) (.sl 21 (.int .i32)) y2] [] said = some true := by
    have e : (S_tutorlaw09_DotApart @l_tutorlaw09_DotApart).run [argAV ((isAggT Tryd.prog 24).getD false) (.pr (.int .i64) (.pr (.int .i64) (.pr (.int .i64) (.pr (.int .i64) (.pr (.sl 3 (.int .i64)) (.sl 3 (.int .i64))))))) y0, argAV ((isAggT Tryd.prog 24).getD false) (.pr (.int .i64) (.pr (.int .i64) (.pr (.int .i64) (.pr (.int .i64) (.pr (.sl 3 (.int .i64)) (.sl 3 (.int .i64))))))) y1, argAV ((isAggT Tryd.prog 25).getD false) (.sl 21 (.int .i32)) y2] [] said = l_tutorlaw09_DotApart (y0.1) (y0.2.1) (y0.2.2.1) (y0.2.2.2.1) (y0.2.2.2.2.1) (y0.2.2.2.2.2) (y1.1) (y1.2.1) (y1.2.2.1) (y1.2.2.2.1) (y1.2.2.2.2.1) (y1.2.2.2.2.2) y2 (fun r => some r) := by kernel_rfl
    exact e.trans (law_tutorlaw09_DotApart _ _ _ _ _ _ _ _ _ _ _ _ _ _ (wfI w0.1) (wfI w0.2.1) (wfI w0.2.2.1) (wfI w0.2.2.2.1) (wfL (by kernel_rfl) w0.2.2.2.2.1) (wfL (by kernel_rfl) w0.2.2.2.2.2) (wfI w1.1) (wfI w1.2.1) (wfI w1.2.2.1) (wfI w1.2.2.2.1) (wfL (by kernel_rfl) w1.2.2.2.2.1) (wfL (by kernel_rfl) w1.2.2.2.2.2) (wf_ok (by kernel_rfl) w2))
  have hrep : RepL W (okB (cx0 W) [] []) [] [argAV ((isAggT Tryd.prog 24).getD false) (.pr (.int .i64) (.pr (.int .i64) (.pr (.int .i64) (.pr (.int .i64) (.pr (.sl 3 (.int .i64)) (.sl 3 (.int .i64))))))) y0, argAV ((isAggT Tryd.prog 24).getD false) (.pr (.int .i64) (.pr (.int .i64) (.pr (.int .i64) (.pr (.int .i64) (.pr (.sl 3 (.int .i64)) (.sl 3 (.int .i64))))))) y1, argAV ((isAggT Tryd.prog 25).getD false) (.sl 21 (.int .i32)) y2] [v0, v1, v2] := ⟨rfl, fun i x y hx hy => by
    match i, hx, hy with
    | 0, hx, hy => cases hx; cases hy; exact e0
    | 1, hx, hy => cases hx; cases hy; exact e1
    | 2, hx, hy => cases hx; cases hy; exact e2
    | i + 3, hx, hy => simp at hx⟩
  refine (law_calls sound_tutorlaw09_DotApart hrep run ht).mono fun e W2 ⟨he, bel⟩ => ?_
  subst he
  exact ⟨_, rfl, _, _, _, [], _, [], hW2, trodAll_mk1 (shut_bool Tryd.underlying4 _), (trodAll_cons_mk (Below.trod laidOutDotApart (by kernel_rfl) (of_decide_eq_true (by kernel_rfl)) k0 bel lt0) (trodAll_cons_mk (Below.trod laidOutDotApart (by kernel_rfl) (of_decide_eq_true (by kernel_rfl)) k1 bel lt1) (trodAll_cons_mk (Below.trod laidOutDotApart (by kernel_rfl) (of_decide_eq_true (by kernel_rfl)) k2 bel lt2) trodAll_mk0))), rfl, bel.frame _, fun h => by cases h⟩

noncomputable def laidWorldDotApart (os : Os) : World :=
  let w0 := World.holding Tryd.prog os ⟨#[], #[], []⟩
  { w0 with heap := (((w0.heap).modify 1 (setTab #[.int .u8 0, .int .u8 1, .int .u8 28, .int .u8 2, .int .u8 29, .int .u8 14, .int .u8 24, .int .u8 3, .int .u8 30, .int .u8 22, .int .u8 20, .int .u8 15, .int .u8 25, .int .u8 17, .int .u8 4, .int .u8 8, .int .u8 31, .int .u8 27, .int .u8 13, .int .u8 23, .int .u8 21, .int .u8 19, .int .u8 16, .int .u8 7, .int .u8 26, .int .u8 12, .int .u8 18, .int .u8 6, .int .u8 11, .int .u8 5, .int .u8 10, .int .u8 9])).modify 2 (setTab #[.int .u8 0, .int .u8 1, .int .u8 56, .int .u8 2, .int .u8 57, .int .u8 49, .int .u8 28, .int .u8 3, .int .u8 61, .int .u8 58, .int .u8 42, .int .u8 50, .int .u8 38, .int .u8 29, .int .u8 17, .int .u8 4, .int .u8 62, .int .u8 47, .int .u8 59, .int .u8 36, .int .u8 45, .int .u8 43, .int .u8 51, .int .u8 22, .int .u8 53, .int .u8 39, .int .u8 33, .int .u8 30, .int .u8 24, .int .u8 18, .int .u8 12, .int .u8 5, .int .u8 63, .int .u8 55, .int .u8 48, .int .u8 27, .int .u8 60, .int .u8 41, .int .u8 37, .int .u8 16, .int .u8 46, .int .u8 35, .int .u8 44, .int .u8 21, .int .u8 52, .int .u8 32, .int .u8 23, .int .u8 11, .int .u8 54, .int .u8 26, .int .u8 40, .int .u8 15, .int .u8 34, .int .u8 20, .int .u8 31, .int .u8 10, .int .u8 25, .int .u8 14, .int .u8 19, .int .u8 9, .int .u8 13, .int .u8 8, .int .u8 7, .int .u8 6])).modify 0 (setTab #[.int .u64 1, .int .u64 10, .int .u64 100, .int .u64 1000, .int .u64 10000, .int .u64 100000, .int .u64 1000000, .int .u64 10000000, .int .u64 100000000, .int .u64 1000000000, .int .u64 10000000000, .int .u64 100000000000, .int .u64 1000000000000, .int .u64 10000000000000, .int .u64 100000000000000, .int .u64 1000000000000000, .int .u64 10000000000000000, .int .u64 100000000000000000, .int .u64 1000000000000000000, .int .u64 10000000000000000000]) }

theorem laid_metDotApart (os : Os) : laidMetH Tryd.prog Rows.dotApartRow.laid ((laidWorldDotApart os).forCall (fun _ _ => 0) ⟨#[], #[.agg #[.int .i64 0, .int .i64 0, .int .i64 0, .int .i64 0, .slice none 0 0, .slice none 0 0], .agg #[.int .i64 0, .int .i64 0, .int .i64 0, .int .i64 0, .slice none 0 0, .slice none 0 0], .slice none 0 0], []⟩).memory := laidMet_of_run' 8 (by kernel_rfl) (by kernel_rfl)
theorem readsDotApart (os : Os) {H : Type} (enc : TypeId × Value → H) : ∃ places, DataW.whole enc Tryd.prog ((laidWorldDotApart os).forCall (fun _ _ => 0) ⟨#[], #[.agg #[.int .i64 0, .int .i64 0, .int .i64 0, .int .i64 0, .slice none 0 0, .slice none 0 0], .agg #[.int .i64 0, .int .i64 0, .int .i64 0, .int .i64 0, .slice none 0 0, .slice none 0 0], .slice none 0 0], []⟩).memory Tryd.f4.params.toList Rows.dotApartSpec.vars false (#[.agg #[.int .i64 0, .int .i64 0, .int .i64 0, .int .i64 0, .slice none 0 0, .slice none 0 0], .agg #[.int .i64 0, .int .i64 0, .int .i64 0, .int .i64 0, .slice none 0 0, .slice none 0 0], .slice none 0 0] : Array Value).toList 8 = some ([.agg [.lit (.int .i64 0), .lit (.int .i64 0), .lit (.int .i64 0), .lit (.int .i64 0), .nil, .nil], .agg [.lit (.int .i64 0), .lit (.int .i64 0), .lit (.int .i64 0), .lit (.int .i64 0), .nil, .nil], .nil], [], places) :=
  ⟨[], by kernel_rfl⟩
set_option maxRecDepth 100000 in
theorem liftedDotApart (os : Os) (started : os.Started) (H : Type) (enc : TypeId × Value → H) (F : Stop.Interp) :
    ReturnsInHanded {} Tryd.checked os 4 .any ((OpenSpec.ofChange Rows.dotApartSpec).preRow enc Tryd.prog Tryd.f4 Rows.dotApartRow.domain false Rows.dotApartRow.laid) (((OpenSpec.ofChange Rows.dotApartSpec).at F).post enc Tryd.prog Tryd.f4 false true false false) := by
  obtain ⟨places, hx⟩ := readsDotApart os enc
  refine returnsInHanded_of_row (C := Tryd.checked) (s := OpenSpec.ofChange Rows.dotApartSpec) ownDotApart started (by kernel_rfl) Tryd.func4
    (witness_row_at (enc := enc) (C := Tryd.checked) false (laidWorldDotApart os) #[.agg #[.int .i64 0, .int .i64 0, .int .i64 0, .int .i64 0, .slice none 0 0, .slice none 0 0], .agg #[.int .i64 0, .int .i64 0, .int .i64 0, .int .i64 0, .slice none 0 0, .slice none 0 0], .slice none 0 0] rfl (by kernel_rfl) (by kernel_rfl) (by kernel_rfl)
      (OpenSpec.preRow_of_cond 8 hx (by kernel_rfl) (fun k hk => by cases hk) (by kernel_rfl) (laid_metDotApart os))) ?_
  intro W base args ds gs before hval hW _ _ hsz hL _ _
  exact @contractDotApart (tabG W [0]) (tabs_hold (g := 0) (by kernel_rfl) (tableDotApart hL) rfl) H enc W (tabG_met W [0]) base args ds gs before hval hW hsz
theorem saidDotApart : Rows.DotApartSaid :=
  OpenClaim.holds_of_cond 4 Tryd.f4 rfl rfl rfl rfl rfl rfl rfl ⟨rfl, rfl, rfl, rfl, rfl⟩ rfl rfl rfl rfl rfl (by kernel_rfl) Tryd.func4 (by kernel_rfl)
    (of_decide_eq_true (by kernel_rfl)) (by unfold Func.isWrapper; first | (rw [if_pos (by decide +kernel)]; kernel_rfl) | (rw [if_neg (by decide +kernel)]; exact ⟨rfl, rfl⟩))
    (fun os started H enc _ F => by rw [OpenClaim.pre_eq_preRow]; exact liftedDotApart os started H enc F)
theorem plainDotApart (f : FuncId) (fn : Func) (hf : Tryd.pinned.checked.prog.funcNamed "tutor/tutorlaw09.DotApart" = some f) (hfn : Tryd.pinned.checked.prog.funcs[f]? = some fn) :
    false = Tryd.pinned.checked.prog.looks [] ∧ ∀ (j : Nat) t, fn.params[j]? = some t → Tryd.pinned.checked.prog.wantsStandIn t = false := by
  obtain rfl : f = 4 := Option.some.inj ((show Tryd.prog.funcNamed "tutor/tutorlaw09.DotApart" = some 4 by kernel_rfl).symm.trans hf) |>.symm
  obtain rfl : fn = Tryd.f4 := (Option.some.inj (Tryd.func4.symm.trans hfn)).symm
  refine ⟨by kernel_rfl, fun j t ht => ?_⟩
  rw [Tryd.params4] at ht
  match j, ht with
  | 0, ht => cases ht; exact (show Tryd.prog.wantsStandIn 24 = false by kernel_rfl)
  | 1, ht => cases ht; exact (show Tryd.prog.wantsStandIn 24 = false by kernel_rfl)
  | 2, ht => cases ht; exact (show Tryd.prog.wantsStandIn 25 = false by kernel_rfl)
  | j + 3, ht => simp at ht
theorem dotApart_holds : Rows.DotApartCardSaid :=
  Claim7.holds_tied_plain_at .later [] _ _ _ _ saidDotApart (fun _ h => by cases h) (by kernel_rfl) (fun _ h => by cases h) dotApart_row_tie rfl ⟨rfl, rfl⟩ (by kernel_rfl) rfl plainDotApart (by kernel_rfl)

end Go.Proofs.YtghgpadmkdfanaaDoor
