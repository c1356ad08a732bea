/- errors.As at a pointer's variable: what it answers. -/
import Derived.Test.YtjjdadbbiciigaaGreatDoorPoEvAs9
import Derived.Test.YtjjdadbbiciigaaGreatDoorPoEvTabs
namespace Go.Ev
open Go.Proofs
set_option maxRecDepth 100000
set_option linter.unusedVariables false
set_option linter.unusedSectionVars false

variable [TabG] [CellHold ⟨1, 0, none⟩ (.iface 194 (.agg #[.pointer (some ⟨6, 143, none⟩)]))]

theorem ifc_rep {w : World} {ok : Bool -> Nat -> Prop} {β : List Value} {t : TypeId} {x : AV} {v : Value} (h : RepV w ok β (.ifc t x) v) : ∃ y, v = .iface t y ∧ RepV w ok β x y := by
  cases h with
  | ifc _ _ y h => exact ⟨y, rfl, h⟩

theorem ptr_rep {w : World} {ok : Bool -> Nat -> Prop} {β : List Value} {i o : Nat} {v : Value} (h : RepV w ok β (.ptr i o) v) : ∃ g, v = .pointer (some ⟨g, o, none⟩) ∧ β[i]? = some (.pointer (some ⟨g, 0, none⟩)) := by
  cases h with
  | ptr _ _ g h => exact ⟨g, rfl, h⟩

theorem sound_errorsAs : Sound Tryz.prog 89 ⟨[], fun {R} args ob K => match args, ob with
    | [.ifc 147 (.ptr 0 0), .ifc 149 (.ptr 1 0)], [.box 151 [.v (.int .i64 x), .v (.int .i64 y)], .box 147 [.v (.pointer none)]] =>
      K (.v (.bool true)) [.box 151 [.v (.int .i64 x), .v (.int .i64 y)], .box 147 [.ptr 0 0]]
    | [.v .nilIface, .ifc 149 (.ptr 0 0)], [.box 147 [.v (.pointer none)]] => K (.v (.bool false)) [.box 147 [.v (.pointer none)]]
    | _, _ => none⟩ := by
  intro R K r args ob h vals w β rho pb disj hW hr
  dsimp only at h
  split at h
  · rename_i x y
    obtain ⟨hl, hc⟩ := hr
    obtain ⟨v0, v1, rfl⟩ : ∃ v0 v1, vals = [v0, v1] := by
      match vals, hl with
      | [v0, v1], _ => exact ⟨v0, v1, rfl⟩
    obtain ⟨y0, rfl, r0⟩ := ifc_rep (hc 0 _ _ rfl rfl)
    obtain ⟨y1, rfl, r1⟩ := ifc_rep (hc 1 _ _ rfl rfl)
    obtain ⟨g0, rfl, b0⟩ := ptr_rep r0
    obtain ⟨g1, rfl, b1⟩ := ptr_rep r1
    obtain ⟨g1', vs, e1, hh, hcs⟩ := hW.obj 1 _ _ rfl b1
    obtain rfl : g1 = g1' := by cases e1; rfl
    obtain ⟨hlv, hcv⟩ := hcs
    obtain ⟨u, rfl⟩ : ∃ u, vs = [u] := by
      match vs, hlv with
      | [u], _ => exact ⟨u, rfl⟩
    obtain rfl := rep_v (hcv 0 _ _ rfl rfl)
    have hg := CellHold.cell (a := ⟨1, 0, none⟩) w fun b o hb => (hW.tab b o hb).2.2
    have hcell : w.cell? ⟨g1, 0, none⟩ = some (.pointer none) := by simp [World.cell?, hh]
    have hfro : w.frozen? ⟨g1, 0, none⟩ = false := by simp [World.frozen?, hh]
    refine (As8.as_hit ⟨g0, 0, none⟩ ⟨g1, 0, none⟩ _ w hg hcell hfro).mono ?_
    rintro e w' ⟨rfl, rfl⟩
    have hlt : g1 < w.heap.size := (Array.getElem?_eq_some_iff.1 hh).1
    have hS := (((Same.alloc w (.cells #[.pointer (some ⟨g1, 0, none⟩)] 149)).trans (Same.alloc _ (.cells #[.pointer (some ⟨6, 149, none⟩), .pointer (some ⟨w.heap.size, 0, none⟩), .int .u64 150] 181))).trans
      (Same.alloc _ (.cells #[.pointer (some ⟨6, 149, none⟩), .pointer (some ⟨w.heap.size, 0, none⟩), .int .u64 150] 181))).trans (Same.alloc _ (.cells #[.pointer (some ⟨g0, 0, none⟩)] 147))
    generalize (((w.alloc (.cells #[.pointer (some ⟨g1, 0, none⟩)] 149)).alloc (.cells #[.pointer (some ⟨6, 149, none⟩), .pointer (some ⟨w.heap.size, 0, none⟩), .int .u64 150] 181)).alloc (.cells #[.pointer (some ⟨6, 149, none⟩), .pointer (some ⟨w.heap.size, 0, none⟩), .int .u64 150] 181)).alloc (.cells #[.pointer (some ⟨g0, 0, none⟩)] 147) = w4 at hS
    have hW4 := hW.same hS
    have hh4 : w4.heap[g1]? = some (.cells [Value.pointer none].toArray 147 (0, 0)) := by rw [hS.blk g1 hlt]; exact hh
    have hset := setCell_eq_setRow w4 g1 0 _ _ _ (.pointer (some ⟨g0, 0, none⟩)) hh4
    rw [hset]
    refine ⟨_, .v (.bool true), _, β, rfl, h, hW4.write (i := 1) (o := .box 147 [.v (.pointer none)]) (o' := .box 147 [.ptr 0 0]) rfl b1 rfl rfl rfl rfl (by simp) (fun b hlt hne => setRow_other w4 g1 b _ fun e => hne (by subst e; rfl)) rfl ?_, .v _⟩
    refine ⟨g1, [.pointer (some ⟨g0, 0, none⟩)], rfl, ?_, rfl, fun i x y hx hy => ?_⟩
    · rw [setRow_heap w4 g1 _ _ _ _ hh4]
      rfl
    · match i with
      | 0 => obtain rfl := Option.some.inj hx; obtain rfl := Option.some.inj hy; exact .ptr 0 0 g0 b0
      | i + 1 => simp at hx
  · obtain ⟨hl, hc⟩ := hr
    obtain ⟨v0, v1, rfl⟩ : ∃ v0 v1, vals = [v0, v1] := by
      match vals, hl with
      | [v0, v1], _ => exact ⟨v0, v1, rfl⟩
    obtain rfl := rep_v (hc 0 _ _ rfl rfl)
    refine (As8.as_nil v1 w).mono ?_
    rintro e w' ⟨rfl, rfl⟩
    exact ⟨_, .v (.bool false), _, β, rfl, h, hW, .v _⟩
  · cases h

end Go.Ev
