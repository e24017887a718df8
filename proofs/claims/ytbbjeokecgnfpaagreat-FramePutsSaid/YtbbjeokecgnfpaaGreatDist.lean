/-
  Rows that lie apart. No program is in sight.
-/
import Derived.Test.YtbbjeokecgnfpaaGreatBaseA
namespace Go.Proofs.YtbbjeokecgnfpaaGreat
open Go.RowKit

/-- the rows' blocks -/
def OwnS (vs : List Value) (b : Nat) : Prop := ∃ (j : Nat) (v : Value), vs[j]? = some v ∧ v.ownBlock = some b
/-- the rows lie apart -/
def DistV (vs : List Value) : Prop := ∀ (i j : Nat) (v v' : Value) (b : Nat), vs[i]? = some v → vs[j]? = some v' → i ≠ j → v.ownBlock = some b → v'.ownBlock ≠ some b
end Go.Proofs.YtbbjeokecgnfpaaGreat
