/- What a teacher answers is right, and true of her machine. -/
import Derived.Test.YtjjdadbbiciigaaGreatDoorTkEvSep
import Derived.Test.YtjjdadbbiciigaaGreatDoorTkEvLogD
namespace Go.Ev
open Go.Proofs
set_option linter.unusedVariables false
set_option linter.unusedSimpArgs false

def askTr (k K O N : Int) (nx ou w o : List Int) : Bool := decide ((fromS k K O N nx ou 0 w).2.2 = o)

theorem fromS_sh (k K O N : Int) (nx ou : List Int) (s : Int) (w : List Int) : short (fromS k K O N nx ou s w).2.2 := by
 have := from_short (k := k) (K := K) (O := O) (N := N) (nx := nx) (ou := ou) (s := s) (w := w)
 unfold short
 omega

def tstTr (k K O N : Int) (nx ou : List Int) (k' K' O' N' : Int) (nx' ou' : List Int) (a : Int) (v : List Int) : Bool :=
 if a = 2 then decide ((sepS k K O N nx ou k' K' O' N' nx' ou').2.1 = 0) && !(sepS k K O N nx ou k' K' O' N' nx' ou').1
 else !decide ((fromS k K O N nx ou 0 v).2.2 = (fromS k' K' O' N' nx' ou' 0 v).2.2)

def truE (k K O N : Int) (nx ou : List Int) (x : Ent) : Bool :=
 if x.1.1 = 1 then askTr k K O N nx ou x.1.2.1 x.2.2.1 else tstTr k K O N nx ou x.1.2.2.1 x.1.2.2.2.1 x.1.2.2.2.2.1 x.1.2.2.2.2.2.1 x.1.2.2.2.2.2.2.1 x.1.2.2.2.2.2.2.2 x.2.1 x.2.2.2

def agrL (k K O N : Int) (nx ou : List Int) : List Ent -> Nat -> Int × Bool
 |[], i => ((i : Int), true)
 |x :: xs, i => if truE k K O N nx ou x = true then agrL k K O N nx ou xs (i + 1) else ((i : Int), false)

def agrS (k K O : Int) (l : List Ent) (k' K' O' N' : Int) (nx ou : List Int) : Int × Bool × Int :=
 if (lcheckS k K O l).2 ≠ 0 then ((lcheckS k K O l).1, false, (lcheckS k K O l).2)
 else if (checkR k' K' O' N' nx ou).2 ≠ 0 then (0, false, (checkR k' K' O' N' nx ou).2)
 else if alikeS k K O k' K' O' ≠ 0 then (0, false, alikeS k K O k' K' O')
 else ((agrL k' K' O' N' nx ou l 0).1, (agrL k' K' O' N' nx ou l 0).2, 0)

def told (k K O N : Int) (nx ou : List Int) (x : Ent) : Prop :=
 entF k K O x = 0 ∧ truE k K O N nx ou x = true ∧ okEnt x ∧ okL x.1.2.2.2.2.2.2.1 ∧ okL x.1.2.2.2.2.2.2.2 ∧ (x.1.1 = 1 -> x.2.2.1.length ≤ 4096 ∧ x.2.2.2 = [])

end Go.Ev
