/- Hunts: the first of words that are drawn by which two machines differ. -/
import Derived.Test.YtdnjhojjicjndaaEvLots
import Derived.Test.YtdnjhojjicjndaaEvBfs3
namespace Go.Ev
set_option linter.unusedVariables false
set_option linter.unusedSimpArgs false

def outW (k K O N : Int) (nx ou : List Int) (w : List Int) : List Int := (fromS k K O N nx ou 0 w).2.2
def diffS (k K O N : Int) (nx ou : List Int) (k' K' O' N' : Int) (nx' ou' : List Int) (w : List Int) : Bool := !decide (outW k K O N nx ou w = outW k' K' O' N' nx' ou' w)

theorem findP_some {α : Type} {p : α → Bool} : ∀ {l : List α} {j : Nat} (d : α), findP p l = some j → j < l.length ∧ p (l.getD j d) = true
  | [], j, d, h => by cases h
  | x :: xs, j, d, h => by
    simp only [findP] at h
    by_cases hp : p x = true
    · rw [if_pos hp] at h
      obtain rfl := Option.some.inj h
      exact ⟨by simp, by simpa using hp⟩
    · rw [if_neg hp] at h
      cases hf : findP p xs with
      | none => rw [hf] at h; cases h
      | some i =>
        rw [hf] at h
        obtain rfl := Option.some.inj h
        obtain ⟨h1, h2⟩ := findP_some d hf
        exact ⟨by simp only [List.length_cons]; omega, by simpa using h2⟩

theorem drawsS_in {k : Int} (hk : 1 ≤ k ∧ k ≤ 64) : ∀ (n : Nat) (x : Int), validW k (drawsS k n x).1
  | 0, x => by intro y hy; cases hy
  | n + 1, x => by
    intro y hy
    simp only [drawsS, List.mem_append, List.mem_singleton] at hy
    rcases hy with hy | rfl
    · exact drawsS_in hk n x y hy
    · exact intS_in hk.1 ⟨by omega, by omega⟩

theorem drawnS_in {k low high x : Int} : validW k (drawnS k low high x).2.1 := by
  unfold drawnS
  split
  · intro y hy
    cases hy
  · rename_i h
    have h : fitW k low high = 0 := by omega
    exact drawsS_in (fitW_zero h).1 _ _

theorem lotsS_in {k low high : Int} : ∀ (n : Nat) (x : Int), ∀ w ∈ lotsS k low high n x, validW k w
  | 0, _, w, h => by simp [lotsS] at h
  | n + 1, x, w, h => by
    simp only [lotsS, List.mem_cons] at h
    rcases h with rfl | h
    · exact drawnS_in
    · exact lotsS_in n _ w h

theorem drawnS_high {k low high x : Int} (h : fitW k low high = 0) : ((drawnS k low high x).2.1.length : Int) ≤ high := by
  have hf := (fitW_zero h).2
  unfold drawnS
  rw [if_neg (by simpa using h)]
  have h1 := lenS_in (x := x) hf
  have h2 := intS_in (n := high - low + 1) (x := x) (by omega) ⟨by omega, by omega⟩
  show ((drawsS k (lenS low high x) _).1.length : Int) ≤ high
  rw [drawsS_len]
  omega

theorem lotsS_high {k low high : Int} (hf : fitW k low high = 0) : ∀ (n : Nat) (x : Int), ∀ w ∈ lotsS k low high n x, (w.length : Int) ≤ high
  | 0, _, w, h => by simp [lotsS] at h
  | n + 1, x, w, h => by
    simp only [lotsS, List.mem_cons] at h
    rcases h with rfl | h
    · exact drawnS_high hf
    · exact lotsS_high hf n _ w h

/-- What a hunt answers: tries, error, word. -/
def huntS (e : Int) (D : List Int → Bool) (k count low high seed : Int) : Int × Int × List Int :=
  if e ≠ 0 then (0, e, []) else if askS k count low high ≠ 0 then (0, askS k count low high, []) else
    match findP D (lotsS k low high count.toNat (seedS seed)) with
    | some j => (((j + 1 : Nat) : Int), 0, (lotsS k low high count.toNat (seedS seed)).getD j [])
    | none => (0, 4, [])

theorem huntS_short {e : Int} {D : List Int → Bool} {k count low high seed : Int} : (huntS e D k count low high seed).2.2.length ≤ 4096 := by
  unfold huntS
  split
  · simp
  · split
    · simp
    · split
      · rename_i j hj
        have h := findP_some [] hj
        exact lotsS_short _ _ _ (by rw [getD_of [] h.1]; exact List.getElem_mem _)
      · simp

end Go.Ev
