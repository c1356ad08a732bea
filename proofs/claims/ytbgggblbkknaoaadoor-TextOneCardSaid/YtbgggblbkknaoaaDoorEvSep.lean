/- Two machines held against one another: the document's answer. -/
import Derived.Test.YtbgggblbkknaoaaDoorEvBfs3
namespace Go.Ev
set_option linter.unusedVariables false
set_option linter.unusedSimpArgs false

/-- Whether they may be held against one another. -/
def fitS (k K O N : Int) (nx ou : List Int) (k' K' O' N' : Int) (nx' ou' : List Int) : Int :=
  if (checkS k K O N nx ou).2 ≠ 0 then (checkS k K O N nx ou).2 else if (checkS k' K' O' N' nx' ou').2 ≠ 0 then (checkS k' K' O' N' nx' ou').2 else
    if k ≠ k' then 30 else if K ≠ K' then 1 else if O ≠ O' then 33 else 0

/-- The document's answer, for two machines. -/
def sepS (k K O N : Int) (nx ou : List Int) (k' K' O' N' : Int) (nx' ou' : List Int) : Bool × Int × List Int :=
  if fitS k K O N nx ou k' K' O' N' nx' ou' ≠ 0 then (false, fitS k K O N nx ou k' K' O' N' nx' ou', []) else
    ((searchS ⟨k, K, N, N', nx, ou, nx', ou'⟩ (0, 0)).1, 0, (searchS ⟨k, K, N, N', nx, ou, nx', ou'⟩ (0, 0)).2)

theorem fitS_zero {k K O N : Int} {nx ou : List Int} {k' K' O' N' : Int} {nx' ou' : List Int} (h1 : okL nx) (h2 : okL ou) (h3 : okL nx') (h4 : okL ou') :
    fitS k K O N nx ou k' K' O' N' nx' ou' = 0 ↔ Fine k K O N nx ou ∧ Fine k' K' O' N' nx' ou' ∧ k = k' ∧ K = K' ∧ O = O' := by
  unfold fitS
  rw [checkS_eq h1 h2, checkS_eq h3 h4, ← checkR_fine, ← checkR_fine]
  by_cases c1 : (checkR k K O N nx ou).2 = 0
  · rw [if_neg (by simpa using c1)]
    by_cases c2 : (checkR k' K' O' N' nx' ou').2 = 0
    · rw [if_neg (by simpa using c2)]
      by_cases c3 : k = k'
      · rw [if_neg (by simpa using c3)]
        by_cases c4 : K = K'
        · rw [if_neg (by simpa using c4)]
          by_cases c5 : O = O'
          · rw [if_neg (by simpa using c5)]
            exact ⟨fun _ => ⟨c1, c2, c3, c4, c5⟩, fun _ => rfl⟩
          · rw [if_pos c5]
            exact ⟨fun h => by simp at h, fun h => absurd h.2.2.2.2 c5⟩
        · rw [if_pos c4]
          exact ⟨fun h => by simp at h, fun h => absurd h.2.2.2.1 c4⟩
      · rw [if_pos c3]
        exact ⟨fun h => by simp at h, fun h => absurd h.2.2.1 c3⟩
    · rw [if_pos c2]
      exact ⟨fun h => absurd h c2, fun h => absurd h.2.1 c2⟩
  · rw [if_pos c1]
    exact ⟨fun h => absurd h c1, fun h => absurd h.1 c1⟩

theorem sepS_fit2 {k K O N : Int} {nx ou : List Int} {k' K' O' N' : Int} {nx' ou' : List Int} (h1 : okL nx) (h2 : okL ou) (h3 : okL nx') (h4 : okL ou') :
    ((sepS k K O N nx ou k' K' O' N' nx' ou').2.1 ≠ 0) ∨
    ((Fine k K O N nx ou ∧ Fine k' K' O' N' nx' ou' ∧ k = k' ∧ K = K' ∧ O = O') ∧ sepS k K O N nx ou k' K' O' N' nx' ou' = ((searchS ⟨k, K, N, N', nx, ou, nx', ou'⟩ (0, 0)).1, 0, (searchS ⟨k, K, N, N', nx, ou, nx', ou'⟩ (0, 0)).2)) := by
  by_cases hf : fitS k K O N nx ou k' K' O' N' nx' ou' = 0
  · refine .inr ⟨(fitS_zero h1 h2 h3 h4).1 hf, ?_⟩
    unfold sepS
    rw [if_neg (by simpa using hf)]
  · refine .inl ?_
    unfold sepS
    rw [if_pos hf]
    exact hf


/-- Every byte is one. -/
def isB (l : List Int) : Prop := ∀ x ∈ l, 0 ≤ x ∧ x < 256

theorem isB_app {a b : List Int} (h1 : isB a) (h2 : isB b) : isB (a ++ b) := fun x hx => (List.mem_append.1 hx).elim (h1 x) (h2 x)
theorem isB_one {x : Int} (h : 0 ≤ x ∧ x < 256) : isB [x] := fun y hy => by
  obtain rfl := List.mem_singleton.1 hy
  exact h
theorem isB_nil : isB [] := fun x hx => by simp at hx

theorem ofBts_list (l : List Int) : (ofBts l).data.toList = l.map fun n => UInt8.ofNat n.toNat := by
  have : ∀ (l : List Int) (r : ByteArray), (l.foldl (fun r n => r.push (UInt8.ofNat n.toNat)) r).data.toList = r.data.toList ++ l.map fun n => UInt8.ofNat n.toNat := by
    intro l
    induction l with
    | nil => intro r; simp
    | cons x xs ih =>
      intro r
      rw [List.foldl_cons, ih]
      simp [ByteArray.push]
  unfold ofBts
  rw [this]
  rfl

theorem isB_inj : ∀ {a b : List Int}, isB a → isB b → (a.map fun n => UInt8.ofNat n.toNat) = (b.map fun n => UInt8.ofNat n.toNat) → a = b
  | [], [], _, _, _ => rfl
  | [], y :: ys, _, _, h => by simp at h
  | x :: xs, [], _, _, h => by simp at h
  | x :: xs, y :: ys, h1, h2, h => by
    simp only [List.map_cons, List.cons.injEq] at h
    obtain ⟨hx, ht⟩ := h
    have a1 := h1 x (List.mem_cons_self ..)
    have a2 := h2 y (List.mem_cons_self ..)
    have hn := congrArg UInt8.toNat hx
    simp only [UInt8.toNat_ofNat'] at hn
    rw [isB_inj (fun z hz => h1 z (List.mem_cons_of_mem _ hz)) (fun z hz => h2 z (List.mem_cons_of_mem _ hz)) ht]
    congr 1
    omega

end Go.Ev
