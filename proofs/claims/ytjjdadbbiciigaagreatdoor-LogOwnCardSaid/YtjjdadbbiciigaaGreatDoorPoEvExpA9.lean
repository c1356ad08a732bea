/- A number and a byte into a buffer. -/
import Derived.Test.YtjjdadbbiciigaaGreatDoorPoEvLay9
namespace Go.Ev
open Go.Proofs Go.Shelf Go.RowKit Go.Lib
set_option maxRecDepth 100000
set_option linter.unusedVariables false
set_option linter.unusedSimpArgs false

def cellsI (xs : List Int) : List Value := xs.map (Value.int .u8)

theorem one_cells (xs : List Int) : ∀ v ∈ cellsI xs, v.oneCell' = true := by
  intro v hv
  obtain ⟨x, _, rfl⟩ := List.mem_map.1 hv
  rfl

theorem cells_app (xs ys : List Int) : cellsI (xs ++ ys) = cellsI xs ++ cellsI ys := List.map_append
theorem cells_itoa (n : Int) : Lib.byteCells (Lib.itoa n) = cellsI (itoaI n) := by
  unfold Lib.byteCells cellsI itoaI
  rw [List.map_map]
  rfl

theorem x_put (n : Int) (hn : inI n) (w : World) (B : Nat) (hB : B = w.heap.size) (htab : Lib.TabBelow Tryz.prog B w "internal/strconv.uint64pow10" .u64 Lib.pow10Tab) :
    Calls Tryz.prog 59 #[.int .i64 n] w fun e w' => ∃ v', e = .returned v' ∧ w'.ownsRow B 5 1 v' (itoaI n).length (cellsI (itoaI n)) ∧ Below B w w' := by
  subst hB
  have hw : IntKind.i64.wrap n = n := wr n hn.1 hn.2
  have hlen : (itoaI n).length = (Lib.itoa n).length := by simp [itoaI]
  go_enter Tryz.func59, Tryz.ntmps59
  go_wp2_with (go_at_call 80; refine (Any.strconv_AppendInt_10 Tryz.lays176 w.heap.size 0 n hn.1 hn.2 (.slice none 0 0) [] w (World.ownsRow_nil _ _ _ _) (Nat.le_refl _) (by omega) htab).mono ?_; rintro e w1 ⟨v1, rfl, h1, b1, -⟩)
  go_wp2
  go_ret
  refine ⟨v1, rfl, ?_, b1⟩
  have h1 : w1.ownsRow w.heap.size 5 1 v1 (0 + (Lib.itoa n).length) ([] ++ Lib.byteCells (Lib.itoa n)) := h1
  rw [hlen, ← cells_itoa]
  simpa using h1

theorem below_others {e : TypeId} {b : Option Nat} {w w' : World} (h : Below w.heap.size w w') : Lib.OthersKept e b w w' := fun k o hk _ _ => by
  have hlt : k < w.heap.size := (Array.getElem?_eq_some_iff.1 hk).1
  rw [h.block k hlt]
  exact hk

theorem below_weak {B B' : Nat} {w w' : World} (h : Below B w w') (hB : B' ≤ B) : Below B' w w' := ⟨h.os, h.tape, h.output, h.size, fun k hk => h.block k (Nat.lt_of_lt_of_le hk hB)⟩

set_option maxHeartbeats 6400000 in
theorem x_cput (B b : Nat) (xs : List Int) (n c : Int) (hn : inI n) (w : World) (h : Lib.IsBuffer 247 5 B b (cellsI xs) w) (hBw : B ≤ w.heap.size) (hlim : xs.length + 22 ≤ 140737488355328)
    (htab : Lib.TabBelow Tryz.prog w.heap.size w "internal/strconv.uint64pow10" .u64 Lib.pow10Tab) :
    Calls Tryz.prog 154 #[.int .i64 n, .int .u8 c, .pointer (some ⟨b, 0, none⟩)] w fun e w' => e = .returned (.tuple #[]) ∧ Lib.IsBuffer 247 5 B b (cellsI (xs ++ itoaI n ++ [c])) w' ∧ Below B w w' ∧ Lib.OthersKept 5 (some b) w w' := by
  have hl := itoaI_len hn
  have hp := itoaI_pos n
  go_enter Tryz.func154, Tryz.ntmps154
  go_wp2_with (go_at_call 59; refine (x_put n hn w w.heap.size rfl htab).mono ?_; rintro e w1 ⟨v1, rfl, o1, b1⟩; refine Hid.out ?_)
  refine Lib.hid ?_
  have i1 := h.old b1
  rcases o1.2 with ⟨_, h0⟩ | ⟨g, cap, cur, rfl, hg0, hg, hcap, hcm, hcs, htake⟩
  · omega
  have hsz := b1.size
  have hbw : b < w.heap.size := h.lt
  have hgb : g ≠ b := by omega
  have hcell : ∀ j v, (cellsI (itoaI n))[j]? = some v -> w1.cell? ((⟨g, 0, none⟩ : Addr).add j) = some v := fun j v hj => o1.cells rfl j v hj
  have hcl : (cellsI (itoaI n)).length = (itoaI n).length := by simp [cellsI]
  go_wp2_with (go_at_call 155; refine (Any.Buffer_Write_any Tryz.lays180 B b (cellsI xs) (cellsI (itoaI n)) ⟨g, 0, none⟩ (itoaI n).length cap w1 i1 (by omega) (one_cells xs) hcl hgb hcell (one_cells _) (by simp [cellsI]; omega)).mono ?_; rintro e w2 ⟨rfl, i2, b2, k2⟩; refine Hid.out ?_)
  refine Lib.hid ?_
  have i2 : Lib.IsBuffer 247 5 B b (cellsI xs ++ cellsI (itoaI n)) w2 := i2
  rw [← cells_app] at i2
  have hsz2 := b2.size
  go_wp2_with (go_at_call 156; refine (Any.Buffer_WriteByte_k Tryz.lays179 B b _ c w2 i2 (by omega) (one_cells _) (by simp [cellsI]; omega)).mono ?_; rintro e w3 ⟨rfl, i3, b3, k3⟩)
  go_wp2
  first | go_end0 | go_ret | go_ret2
  have i3 : Lib.IsBuffer 247 5 B b (cellsI (xs ++ itoaI n) ++ cellsI [c]) w3 := i3
  rw [← cells_app] at i3
  exact ⟨rfl, i3, ((below_weak b1 hBw).trans b2).trans b3, ((below_others b1).trans k2).trans k3⟩

end Go.Ev
