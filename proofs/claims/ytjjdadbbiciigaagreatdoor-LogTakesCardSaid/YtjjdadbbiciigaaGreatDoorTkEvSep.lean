/- Two machines held against one another: the document's answer. -/
import Derived.Test.YtjjdadbbiciigaaGreatDoorTkEvBfs3
namespace Go.Ev
set_option linter.unusedVariables false
set_option linter.unusedSimpArgs false

def fitS (k K O N : Int) (nx ou : List Int) (k' K' O' N' : Int) (nx' ou' : List Int) : Int :=
 if (checkS k K O N nx ou).2 ≠ 0 then (checkS k K O N nx ou).2 else if (checkS k' K' O' N' nx' ou').2 ≠ 0 then (checkS k' K' O' N' nx' ou').2 else
  if k ≠ k' then 30 else if K ≠ K' then 1 else if O ≠ O' then 33 else 0

def sepS (k K O N : Int) (nx ou : List Int) (k' K' O' N' : Int) (nx' ou' : List Int) : Bool × Int × List Int :=
 if fitS k K O N nx ou k' K' O' N' nx' ou' ≠ 0 then (false, fitS k K O N nx ou k' K' O' N' nx' ou', []) else
  ((searchS ⟨k, K, N, N', nx, ou, nx', ou'⟩ (0, 0)).1, 0, (searchS ⟨k, K, N, N', nx, ou, nx', ou'⟩ (0, 0)).2)

theorem fitS_zero {k K O N : Int} {nx ou : List Int} {k' K' O' N' : Int} {nx' ou' : List Int} (h1 : okL nx) (h2 : okL ou) (h3 : okL nx') (h4 : okL ou') :
  fitS k K O N nx ou k' K' O' N' nx' ou' = 0 ↔ Fine k K O N nx ou ∧ Fine k' K' O' N' nx' ou' ∧ k = k' ∧ K = K' ∧ O = O' := by
 unfold fitS
 rw [checkS_eq h1 h2, checkS_eq h3 h4, ← checkR_fine, ← checkR_fine]
 by_cases c1 : (checkR k K O N nx ou).2 = 0
 ·rw [if_neg (by simpa using c1)]
  by_cases c2 : (checkR k' K' O' N' nx' ou').2 = 0
  ·rw [if_neg (by simpa using c2)]
   by_cases c3 : k = k'
   ·rw [if_neg (by simpa using c3)]
    by_cases c4 : K = K'
    ·rw [if_neg (by simpa using c4)]
     by_cases c5 : O = O'
     ·rw [if_neg (by simpa using c5)]
      exact ⟨fun _ => ⟨c1, c2, c3, c4, c5⟩, fun _ => rfl⟩
     ·rw [if_pos c5]
      exact ⟨fun h => by simp at h, fun h => absurd h.2.2.2.2 c5⟩
    ·rw [if_pos c4]
     exact ⟨fun h => by simp at h, fun h => absurd h.2.2.2.1 c4⟩
   ·rw [if_pos c3]
    exact ⟨fun h => by simp at h, fun h => absurd h.2.2.1 c3⟩
  ·rw [if_pos c2]
   exact ⟨fun h => absurd h c2, fun h => absurd h.2.1 c2⟩
 ·rw [if_pos c1]
  exact ⟨fun h => absurd h c1, fun h => absurd h.1 c1⟩

end Go.Ev
