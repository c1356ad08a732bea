/- The row of the law WalkStrolls: whatever the input, it returns true, and the input reads as it did. -/
import Derived.Test.YtdnjhojjicjndaaRows
import Derived.Test.YtdnjhojjicjndaaWalkStrollsWalk
import Derived.Test.YtdnjhojjicjndaaEvRow
import Derived.WalkKit
import Derived.ProofKit
import Derived.OpenShut
import Derived.ShutString
import Derived.ChangeOld
import Derived.Below
import Derived.SizedLaws
namespace Go.Proofs.Ytdnjhojjicjndaa
open Go.Ev Go.ChangeShapes Go.WideShapes Go.ChangeAt Go.RowKit
set_option linter.unusedVariables false

theorem own : ownKnob Try.prog.godebug = Option.none := by kernel_rfl
theorem laidOut : laidOutB Try.prog = true := by kernel_rfl

set_option maxRecDepth 100000 in
theorem liftedWalkStrolls (os : Os) (started : os.Started) (H : Type) (enc : TypeId × Value → H) :
    ReturnsInHanded {} Try.checked os 5 .any (Rows.walkStrollsSpec.pre6 enc Try.prog Try.f5 Rows.walkStrollsRow.domain false) (Rows.walkStrollsSpec.post enc Try.prog Try.f5 false true false false) := by
  refine returnsInHanded_of_change_sized (C := Try.checked) own started (by kernel_rfl) Try.func5
    (ChangeSpec.witness6 (enc := enc) (C := Try.checked) false ⟨#[], #[.agg #[.int .i64 0, .int .i64 0, .int .i64 0, .int .i64 0, .slice none 0 0, .slice none 0 0], .int .u64 0, .int .i64 0, .int .i64 0], []⟩ 8 (by kernel_rfl) (by kernel_rfl) (by kernel_rfl) (by kernel_rfl)) ?_
  intro W base args ds gs before hval0 hW hcnd hsz0 _
  have hval : ∀ (j : Nat) t v, Try.f5.params[j]? = some t → args[j]? = some v → Value.okWide Try.prog W .any base t v := hval0
  have hW2 := hW
  obtain ⟨p, q, hA0, hV, rfl, hfz, hnd⟩ := hW
  have hA : DataW.TrodAll enc Try.prog W 0 (fun _ => true) true Try.f5.params.toList args.toList ds p := hA0
  rw [Try.params5] at hA hval
  obtain ⟨v0, vs0, d0, ds0, p0, q0, hargs, rfl, rfl, h0, r0⟩ := trodAll_cons hA
  obtain ⟨v1, vs1, d1, ds1, p1, q1, rfl, rfl, rfl, h1, r1⟩ := trodAll_cons r0
  obtain ⟨v2, vs2, d2, ds2, p2, q2, rfl, rfl, rfl, h2, r2⟩ := trodAll_cons r1
  obtain ⟨v3, vs3, d3, ds3, p3, q3, rfl, rfl, rfl, h3, r3⟩ := trodAll_cons r2
  obtain ⟨rfl, rfl, rfl⟩ := trodAll_nil r3
  obtain rfl : args = #[v0, v1, v2, v3] := by cases args; simp_all
  obtain ⟨rfl, rfl⟩ := trodVars_none hV
  have k0 := h0
  have lt0 : ∀ x ∈ p0, x.block < W.heap.size := by obtain ⟨m, hm⟩ := k0; exact DataW.trod_lt m _ _ _ hm
  obtain ⟨y0, w0, e0⟩ := open_arg (ty := (.pr (.int .i64) (.pr (.int .i64) (.pr (.int .i64) (.pr (.int .i64) (.pr (.sl 3 (.int .i64)) (.sl 3 (.int .i64)))))))) (by kernel_rfl) (by kernel_rfl) (hval 0 51 v0 rfl rfl) (small_of hsz0 0 (by kernel_rfl) rfl) h0
  have k1 := h1
  have lt1 : ∀ x ∈ p1, x.block < W.heap.size := by obtain ⟨m, hm⟩ := k1; exact DataW.trod_lt m _ _ _ hm
  obtain ⟨y1, w1, e1⟩ := open_arg (ty := (.int .u64)) (by kernel_rfl) (by kernel_rfl) (hval 1 22 v1 rfl rfl) (small_of hsz0 1 (by kernel_rfl) rfl) h1
  have k2 := h2
  have lt2 : ∀ x ∈ p2, x.block < W.heap.size := by obtain ⟨m, hm⟩ := k2; exact DataW.trod_lt m _ _ _ hm
  obtain ⟨y2, w2, e2⟩ := open_arg (ty := (.int .i64)) (by kernel_rfl) (by kernel_rfl) (hval 2 3 v2 rfl rfl) (small_of hsz0 2 (by kernel_rfl) rfl) h2
  have k3 := h3
  have lt3 : ∀ x ∈ p3, x.block < W.heap.size := by obtain ⟨m, hm⟩ := k3; exact DataW.trod_lt m _ _ _ hm
  obtain ⟨y3, w3, e3⟩ := open_arg (ty := (.int .i64)) (by kernel_rfl) (by kernel_rfl) (hval 3 3 v3 rfl rfl) (small_of hsz0 3 (by kernel_rfl) rfl) h3
  have run : (S_tutorlaw21_WalkStrolls @l_tutorlaw21_WalkStrolls).run [argAV ((isAggT Try.prog 51).getD false) (.pr (.int .i64) (.pr (.int .i64) (.pr (.int .i64) (.pr (.int .i64) (.pr (.sl 3 (.int .i64)) (.sl 3 (.int .i64))))))) y0, argAV ((isAggT Try.prog 22).getD false) (.int .u64) y1, argAV ((isAggT Try.prog 3).getD false) (.int .i64) y2, argAV ((isAggT Try.prog 3).getD false) (.int .i64) y3] [] said = some true := by
    have e : (S_tutorlaw21_WalkStrolls @l_tutorlaw21_WalkStrolls).run [argAV ((isAggT Try.prog 51).getD false) (.pr (.int .i64) (.pr (.int .i64) (.pr (.int .i64) (.pr (.int .i64) (.pr (.sl 3 (.int .i64)) (.sl 3 (.int .i64))))))) y0, argAV ((isAggT Try.prog 22).getD false) (.int .u64) y1, argAV ((isAggT Try.prog 3).getD false) (.int .i64) y2, argAV ((isAggT Try.prog 3).getD false) (.int .i64) y3] [] said = l_tutorlaw21_WalkStrolls (y0.1) (y0.2.1) (y0.2.2.1) (y0.2.2.2.1) (y0.2.2.2.2.1) (y0.2.2.2.2.2) y1 y2 y3 (fun r => some r) := by kernel_rfl
    exact e.trans (law_tutorlaw21_WalkStrolls _ _ _ _ _ _ _ _ _ _ (wfI w0.1) (wfI w0.2.1) (wfI w0.2.2.1) (wfI w0.2.2.2.1) (wfL (by kernel_rfl) w0.2.2.2.2.1) (wfL (by kernel_rfl) w0.2.2.2.2.2) (wfU w1) (wfI w2) (wfI w3))
  have hrep : RepL W (okB (cx0 W) [] []) [] [argAV ((isAggT Try.prog 51).getD false) (.pr (.int .i64) (.pr (.int .i64) (.pr (.int .i64) (.pr (.int .i64) (.pr (.sl 3 (.int .i64)) (.sl 3 (.int .i64))))))) y0, argAV ((isAggT Try.prog 22).getD false) (.int .u64) y1, argAV ((isAggT Try.prog 3).getD false) (.int .i64) y2, argAV ((isAggT Try.prog 3).getD false) (.int .i64) y3] [v0, v1, v2, v3] := ⟨rfl, fun i x y hx hy => by
    match i, hx, hy with
    | 0, hx, hy => cases hx; cases hy; exact e0
    | 1, hx, hy => cases hx; cases hy; exact e1
    | 2, hx, hy => cases hx; cases hy; exact e2
    | 3, hx, hy => cases hx; cases hy; exact e3
    | i + 4, hx, hy => simp at hx⟩
  refine (law_calls sound_tutorlaw21_WalkStrolls hrep run).mono fun e W2 ⟨he, bel⟩ => ?_
  subst he
  exact ⟨_, rfl, _, _, _, [], _, [], hW2, trodAll_mk1 (shut_bool Try.underlying4 _), (trodAll_cons_mk (Below.trod laidOut (by kernel_rfl) (of_decide_eq_true (by kernel_rfl)) k0 bel lt0) (trodAll_cons_mk (Below.trod laidOut (by kernel_rfl) (of_decide_eq_true (by kernel_rfl)) k1 bel lt1) (trodAll_cons_mk (Below.trod laidOut (by kernel_rfl) (of_decide_eq_true (by kernel_rfl)) k2 bel lt2) (trodAll_cons_mk (Below.trod laidOut (by kernel_rfl) (of_decide_eq_true (by kernel_rfl)) k3 bel lt3) trodAll_mk0)))), rfl, bel.frame _, fun h => by cases h⟩
theorem walkStrolls_holds : Rows.WalkStrollsSaid :=
  OpenClaim.holds_of_wide 5 Try.f5 rfl rfl rfl rfl rfl rfl rfl ⟨rfl, rfl, rfl, rfl, rfl⟩ rfl rfl rfl rfl rfl (by kernel_rfl) Try.func5 (by kernel_rfl)
    (of_decide_eq_true (by kernel_rfl)) (by unfold Func.isWrapper; first | (rw [if_pos (by decide +kernel)]; kernel_rfl) | (rw [if_neg (by decide +kernel)]; exact ⟨rfl, rfl⟩))
    (fun os started H enc _ => liftedWalkStrolls os started H enc)

end Go.Proofs.Ytdnjhojjicjndaa
