/- The first word that tells apart is not long. -/
import Derived.Test.YtjjdadbbiciigaaGreatDoorTkEvBfs2
namespace Go.Ev
set_option linter.unusedVariables false
set_option linter.unusedSimpArgs false

open Classical in
/-! ### The words -/

def Duo.out (D : Duo) (a : Nat) (v : List Int) : List Int := if a < D.N.toNat then (endS D.k D.K D.nx D.ou (a : Int) v).2 else (endS D.k D.K D.nx' D.ou' ((a : Int) - D.N) v).2

end Go.Ev
