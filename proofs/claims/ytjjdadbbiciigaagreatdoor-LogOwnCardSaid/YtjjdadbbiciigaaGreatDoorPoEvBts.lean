/- Bytes, as numbers. -/
import Derived.Test.YtjjdadbbiciigaaGreatDoorPoEvMach
import Derived.Test.YtjjdadbbiciigaaGreatDoorPoEvNum
import Derived.Laws.Strings
namespace Go.Ev
set_option linter.unusedVariables false
set_option linter.unusedSimpArgs false

/-! ### Bytes -/

def isB8 (l : List Int) : Prop := ∀ x ∈ l, 0 ≤ x ∧ x < 256

theorem bts_size (a : ByteArray) : (bts a).length = a.size := by
 unfold bts
 rw [List.length_map, Array.length_toList]
 rfl

theorem ofBts_data (l : List Int) : (ofBts l).data.toList = l.map fun n => UInt8.ofNat n.toNat := by
 have : ∀ (l : List Int) (r : ByteArray), (l.foldl (fun r n => r.push (UInt8.ofNat n.toNat)) r).data.toList = r.data.toList ++ l.map fun n => UInt8.ofNat n.toNat := by
  intro l
  induction l with
  |nil => intro r; simp
  |cons x xs ih =>
   intro r
   rw [List.foldl_cons, ih]
   simp [ByteArray.push]
 unfold ofBts
 rw [this]
 rfl

theorem bts_ofBts {l : List Int} (h : isB8 l) : bts (ofBts l) = l := by
 unfold bts
 rw [ofBts_data, List.map_map]
 refine (List.map_congr_left fun x hx => ?_).trans (List.map_id _)
 have := h x hx
 simp only [Function.comp_apply, UInt8.toNat_ofNat', id]
 omega

theorem bts_inj {a b : ByteArray} (h : bts a = bts b) : a = b := by
 unfold bts at h
 have h2 : a.data.toList = b.data.toList := by
  have inj : ∀ (l m : List UInt8), l.map (fun x => (x.toNat : Int)) = m.map (fun x => (x.toNat : Int)) -> l = m := by
   intro l
   induction l with
   |nil => intro m h; cases m with
    |nil => rfl
    |cons => simp at h
   |cons x xs ih => intro m h; cases m with
    |nil => simp at h
    |cons y ys =>
     simp only [List.map_cons, List.cons.injEq] at h
     have e : x = y := UInt8.toNat_inj.1 (by have := h.1; omega)
     rw [ih ys h.2, e]
  exact inj _ _ h
 cases a
 cases b
 congr 1
 exact Array.toList_inj.1 h2

theorem isB8_bts (a : ByteArray) : isB8 (bts a) := by
 intro x hx
 unfold bts at hx
 obtain ⟨y, _, rfl⟩ := List.mem_map.1 hx
 have : y.toNat < 256 := y.toNat_lt
 omega

instance (l : List Int) : Decidable (isB8 l) := by unfold isB8; infer_instance

theorem str_eq (a b : ByteArray) : (a.toList == b.toList) = decide (bts a = bts b) := by
 by_cases h : bts a = bts b
 ·rw [bts_inj h, decide_eq_true rfl]
  simp
 ·have hne : a.toList ≠ b.toList := fun e => h (by
   rw [ByteArray.toList_eq, ByteArray.toList_eq] at e
   unfold bts
   rw [e])
  rw [decide_eq_false h]
  simpa using hne

theorem bts_at (s : ByteArray) (j : Nat) : ((s.data.toList.getD j 0).toNat : Int) = (bts s).getD j 0 := by
 unfold bts
 rw [List.getD_eq_getElem?_getD, List.getD_eq_getElem?_getD, List.getElem?_map]
 cases s.data.toList[j]? <;> rfl

end Go.Ev
