/-
  The walk of wire's Writer.Rising.
-/
import Derived.Test.YtbbjeokecgnfpaaGreatWNumber
import Derived.Test.YtbbjeokecgnfpaaGreatPutOne
import Derived.Test.YtbbjeokecgnfpaaGreatBaseA
namespace Go.Proofs.YtbbjeokecgnfpaaGreat
open Go.RowKit WireM

/-- what holds at the head of the loop -/
structure RiseInv (w : World) (B g : Nat) (v : Value) (l : List UInt8) (bad : Bool) (L : List Int) (n k : Nat) (last : Int) (W : World) : Prop where
  wr : ∃ v1 l1 b1, Wr 49 W B g v1 l1 b1 ∧ Foot w g v W v1 ∧ putRising L (stOf l bad) = putRise (last + 1) (L.drop k) (stOf l1 b1) ∧ l1.length ≤ l.length + 6 + 6 * k
  lo : -1 ≤ last
  hi : last ≤ 1099511627776

end Go.Proofs.YtbbjeokecgnfpaaGreat
