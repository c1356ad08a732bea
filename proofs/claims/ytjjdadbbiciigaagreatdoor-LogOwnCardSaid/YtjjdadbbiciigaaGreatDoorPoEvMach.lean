/- Machines and words, as numbers and lists. -/
import Derived.Test.YtjjdadbbiciigaaGreatDoorPoEvPure
namespace Go.Ev
set_option linter.unusedVariables false

def bad (n x : Int) : Bool := decide (IntKind.u64.wrap x ≥ IntKind.u64.wrap n)
def beyondS (n : Int) (l : List Int) : Int := match findP (bad n) l with
 |some i => (i : Int)
 |none => -1
theorem mulK {N K : Int} (h : (1 ≤ N ∧ N ≤ 1024) ∧ 1 ≤ K ∧ K ≤ 64) : 1 ≤ N * K ∧ N * K ≤ 65536 := by
 have h1 : N * K ≤ 1024 * K := Int.mul_le_mul_of_nonneg_right h.1.2 (by omega)
 have h2 : 1 * K ≤ N * K := Int.mul_le_mul_of_nonneg_right h.1.1 (by omega)
 omega
def headS (k K O N : Int) (nx ou : List Int) : Int :=
 if k ≠ 1 ∧ k ≠ 2 then 30 else if K < 1 ∨ K > 64 then 1 else if (k = 1 ∧ O ≠ 2) ∨ O < 1 ∨ O > 64 then 33 else if N < 1 ∨ N > 1024 then 3 else
  if (nx.length : Int) ≠ N * K ∨ (k = 1 ∧ (ou.length : Int) ≠ N) ∨ (k ≠ 1 ∧ (ou.length : Int) ≠ N * K) then 31 else 0
def checkS (k K O N : Int) (nx ou : List Int) : Int × Int :=
 if headS k K O N nx ou ≠ 0 then (0, headS k K O N nx ou) else match findP (bad N) nx with
  |some i => ((i : Int), 32)
  |none => match findP (bad O) ou with
   |some i => ((i : Int), 33)
   |none => (0, 0)
def outside (k x : Int) : Bool := decide (x < 0) || decide (x ≥ k)
def wordS (k : Int) (w : List Int) : Int × Int :=
 if ¬ (1 ≤ k ∧ k ≤ 64) then (0, 1) else if w.length > 4096 then (0, 2) else match findP (outside k) w with
  |some i => ((i : Int), 10)
  |none => (0, 0)
def checkR (k K O N : Int) (nx ou : List Int) : Int × Int :=
 if headS k K O N nx ou ≠ 0 then (0, headS k K O N nx ou) else match findP (outside N) nx with
  |some i => ((i : Int), 32)
  |none => match findP (outside O) ou with
   |some i => ((i : Int), 33)
   |none => (0, 0)
theorem bad_eq {n x : Int} (hn : 0 ≤ n ∧ n ≤ 9223372036854775807) (hx : inI x) : bad n x = outside n x := by
 obtain ⟨h1, h2⟩ := hx
 unfold bad outside
 rw [wru, wru, ← Bool.decide_or, decide_eq_decide]
 omega
theorem outside_not {n x : Int} (h : outside n x = false) : 0 ≤ x ∧ x < n := by
 unfold outside at h
 simp at h
 omega
structure Fine (k K O N : Int) (nx ou : List Int) : Prop where
 fk : k = 1 ∨ k = 2
 fK : 1 ≤ K ∧ K ≤ 64
 fO : 1 ≤ O ∧ O ≤ 64
 fO2 : k = 1 -> O = 2
 fN : 1 ≤ N ∧ N ≤ 1024
 fnx : (nx.length : Int) = N * K
 fou1 : k = 1 -> (ou.length : Int) = N
 fou2 : k = 2 -> (ou.length : Int) = N * K
 fnxs : ∀ x ∈ nx, 0 ≤ x ∧ x < N
 fous : ∀ x ∈ ou, 0 ≤ x ∧ x < O
theorem head_zero {k K O N : Int} {nx ou : List Int} (h : headS k K O N nx ou = 0) : (k = 1 ∨ k = 2) ∧ (1 ≤ K ∧ K ≤ 64) ∧ (1 ≤ O ∧ O ≤ 64) ∧ (k = 1 -> O = 2) ∧ (1 ≤ N ∧ N ≤ 1024) ∧ (nx.length : Int) = N * K ∧ (k = 1 -> (ou.length : Int) = N) ∧ (k = 2 -> (ou.length : Int) = N * K) := by
 unfold headS at h
 by_cases h1 : k ≠ 1 ∧ k ≠ 2
 ·rw [if_pos h1] at h; omega
 rw [if_neg h1] at h
 by_cases h2 : K < 1 ∨ K > 64
 ·rw [if_pos h2] at h; omega
 rw [if_neg h2] at h
 by_cases h3 : (k = 1 ∧ O ≠ 2) ∨ O < 1 ∨ O > 64
 ·rw [if_pos h3] at h; omega
 rw [if_neg h3] at h
 by_cases h4 : N < 1 ∨ N > 1024
 ·rw [if_pos h4] at h; omega
 rw [if_neg h4] at h
 by_cases h5 : (nx.length : Int) ≠ N * K ∨ (k = 1 ∧ (ou.length : Int) ≠ N) ∨ (k ≠ 1 ∧ (ou.length : Int) ≠ N * K)
 ·rw [if_pos h5] at h; omega
 refine ⟨by omega, by omega, by omega, by omega, by omega, by omega, by omega, by omega⟩
theorem checkS_eq {k K O N : Int} {nx ou : List Int} (h1 : okL nx) (h2 : okL ou) : checkS k K O N nx ou = checkR k K O N nx ou := by
 unfold checkS checkR
 by_cases h : headS k K O N nx ou = 0
 ·obtain ⟨_, _, hO, _, hN, _⟩ := head_zero h
  rw [if_neg (by simpa using h), if_neg (by simpa using h), findP_congr (q := outside N) fun x hx => bad_eq (by omega) (h1.2 x hx), findP_congr (p := bad O) (q := outside O) fun x hx => bad_eq (by omega) (h2.2 x hx)]
 ·rw [if_pos (by simpa using h), if_pos (by simpa using h)]
theorem checkR_fine {k K O N : Int} {nx ou : List Int} : (checkR k K O N nx ou).2 = 0 ↔ Fine k K O N nx ou := by
 unfold checkR
 by_cases h : headS k K O N nx ou = 0
 ·rw [if_neg (by simpa using h)]
  obtain ⟨a1, a2, a3, a4, a5, a6, a7, a8⟩ := head_zero h
  cases hf : findP (outside N) nx with
  |some i =>
   refine ⟨fun h => by simp at h, fun F => ?_⟩
   have : findP (outside N) nx = none := findP_none.2 fun x hx => by
    have := F.fnxs x hx
    unfold outside
    simp
    omega
   rw [this] at hf
   cases hf
  |none =>
   cases hg : findP (outside O) ou with
   |some i =>
    refine ⟨fun h => by simp at h, fun F => ?_⟩
    have : findP (outside O) ou = none := findP_none.2 fun x hx => by
     have := F.fous x hx
     unfold outside
     simp
     omega
    rw [this] at hg
    cases hg
   |none => exact ⟨fun _ => ⟨a1, a2, a3, a4, a5, a6, a7, a8, fun x hx => outside_not (findP_none.1 hf x hx), fun x hx => outside_not (findP_none.1 hg x hx)⟩, fun _ => rfl⟩
 ·rw [if_pos (by simpa using h)]
  refine ⟨fun h' => absurd h' h, fun F => absurd ?_ h⟩
  unfold headS
  have := F.fk; have := F.fK; have := F.fO; have := F.fO2; have := F.fN; have := F.fnx; have := F.fou1; have := F.fou2
  repeat' (refine ite_l (fun _ => ?_) (fun _ => ?_))
  all_goals omega
def allIn (n : Int) (l : List Int) : Prop := findP (outside n) l = none
instance (n : Int) (l : List Int) : Decidable (allIn n l) := by unfold allIn; infer_instance

def teachC (q : Int) (q1 : List Int) (q2 q3 q4 : Int) (a : Int) (a1 a2 : List Int) : Int :=
 if q ≠ 1 ∧ q ≠ 2 then 30
 else if q = 2 then (if a1.length = 0 ∧ ((a = 2 ∧ a2.length = 0) ∨ (a = 3 ∧ (wordS q3 a2).2 = 0)) then 0 else 100)
 else if a = 1 ∧ a2.length = 0 ∧ ((q2 = 1 ∧ a1.length = 1 ∧ allIn 2 a1) ∨ (q2 = 2 ∧ a1.length = q1.length ∧ allIn q4 a1)) then 0 else 100

end Go.Ev
