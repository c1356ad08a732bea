/- Machines as texts. -/
import Derived.Test.YtjjdadbbiciigaaGreatDoorPoEvMach
import Derived.Test.YtjjdadbbiciigaaGreatDoorPoEvNum
namespace Go.Ev
set_option linter.unusedVariables false

def behind (K : Int) (x : Nat) : Int := if (x : Int) = K - 1 then 10 else 32

def expCell (k K : Int) (nx ou : List Int) (s x : Nat) : List Int :=
 if k = 1 then itoaI (nx.getD (s * K.toNat + x) 0) ++ [behind K x]
 else itoaI (nx.getD (s * K.toNat + x) 0) ++ [47] ++ itoaI (ou.getD (s * K.toNat + x) 0) ++ [behind K x]

def expCells (k K : Int) (nx ou : List Int) (s : Nat) : Nat -> List Int
 |0 => []
 |x + 1 => expCells k K nx ou s x ++ expCell k K nx ou s x

def expLead (k : Int) (ou : List Int) (s : Nat) : List Int := if k = 1 then itoaI (ou.getD s 0) ++ [32] else []

def expRows (k K : Int) (nx ou : List Int) : Nat -> List Int
 |0 => []
 |s + 1 => expRows k K nx ou s ++ expLead k ou s ++ expCells k K nx ou s K.toNat

def expHead (k K O N : Int) : List Int :=
 if k = 1 then [100, 102, 97, 32] ++ itoaI K ++ [32] ++ itoaI N ++ [10] else [109, 101, 97, 108, 121, 32] ++ itoaI K ++ [32] ++ itoaI O ++ [32] ++ itoaI N ++ [10]

def expS (k K O N : Int) (nx ou : List Int) : List Int := expHead k K O N ++ expRows k K nx ou N.toNat

def exportS (k K O N : Int) (nx ou : List Int) : List Int × Int :=
 if (checkR k K O N nx ou).2 ≠ 0 then ([], (checkR k K O N nx ou).2) else (expS k K O N nx ou, 0)

theorem getD_in {l : List Int} (h : ∀ x ∈ l, inI x) (i : Nat) : inI (l.getD i 0) := by
 rw [List.getD_eq_getElem?_getD]
 cases hq : l[i]? with
 |none =>
  show inI 0
  unfold inI
  omega
 |some x => exact h x (List.mem_of_getElem? hq)

theorem expCell_len {k K : Int} {nx ou : List Int} (h1 : ∀ x ∈ nx, inI x) (h2 : ∀ x ∈ ou, inI x) (s x : Nat) : (expCell k K nx ou s x).length ≤ 44 := by
 have a := itoaI_len (getD_in h1 (s * K.toNat + x))
 have b := itoaI_len (getD_in h2 (s * K.toNat + x))
 unfold expCell
 split <;> simp only [List.length_append, List.length_cons, List.length_nil] <;> omega

theorem expCells_len {k K : Int} {nx ou : List Int} (h1 : ∀ x ∈ nx, inI x) (h2 : ∀ x ∈ ou, inI x) (s : Nat) : ∀ x : Nat, (expCells k K nx ou s x).length ≤ 44 * x
 |0 => by simp [expCells]
 |x + 1 => by
  have a := expCells_len (k := k) (K := K) h1 h2 s x
  have b := expCell_len (k := k) (K := K) h1 h2 s x
  simp only [expCells, List.length_append]
  omega

theorem expLead_len {k : Int} {ou : List Int} (h2 : ∀ x ∈ ou, inI x) (s : Nat) : (expLead k ou s).length ≤ 22 := by
 have b := itoaI_len (getD_in h2 s)
 unfold expLead
 split
 ·simp only [List.length_append, List.length_cons, List.length_nil]
  omega
 ·simp

theorem expRows_len {k K : Int} {nx ou : List Int} (h1 : ∀ x ∈ nx, inI x) (h2 : ∀ x ∈ ou, inI x) (hK : K ≤ 64) : ∀ s : Nat, (expRows k K nx ou s).length ≤ 3000 * s
 |0 => by simp [expRows]
 |s + 1 => by
  have a := expRows_len (k := k) h1 h2 hK s
  have b := expLead_len (k := k) h2 s
  have c := expCells_len (k := k) (K := K) h1 h2 s K.toNat
  simp only [expRows, List.length_append]
  omega

theorem expHead_len {k K O N : Int} (h1 : inI K) (h2 : inI O) (h3 : inI N) : (expHead k K O N).length ≤ 80 := by
 have a := itoaI_len h1
 have b := itoaI_len h2
 have c := itoaI_len h3
 unfold expHead
 split <;> simp only [List.length_append, List.length_cons, List.length_nil] <;> omega

theorem expHead_pos (k K O N : Int) : 0 < (expHead k K O N).length := by
 unfold expHead
 split <;> simp only [List.length_append, List.length_cons, List.length_nil] <;> omega

def l_Export {R : Type} (m m_1 m_2 m_3 : Int) (m_4 m_5 : List Int) (K0 : List Int -> Int -> Option R) : Option R :=
 bi (decide (okL m_4 ∧ okL m_5)) (K0 (exportS m m_1 m_2 m_3 m_4 m_5).1 (exportS m m_1 m_2 m_3 m_4 m_5).2) none

theorem export_eq {R : Type} {m m_1 m_2 m_3 : Int} {m_4 m_5 : List Int} (h1 : okL m_4) (h2 : okL m_5) (K0 : List Int -> Int -> Option R) :
  l_Export m m_1 m_2 m_3 m_4 m_5 K0 = K0 (exportS m m_1 m_2 m_3 m_4 m_5).1 (exportS m m_1 m_2 m_3 m_4 m_5).2 := by
 unfold l_Export
 rw [decide_eq_true ⟨h1, h2⟩]
 rfl

end Go.Ev
