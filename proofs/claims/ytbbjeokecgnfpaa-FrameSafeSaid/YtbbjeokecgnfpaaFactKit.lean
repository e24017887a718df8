/-
  Facts for the law of XFacts: what a slot of a drawn region may hold, said so that nothing that follows breaks it. No program is in sight.
-/
import Derived.Test.YtbbjeokecgnfpaaFacts
import Derived.Test.YtbbjeokecgnfpaaData
import Derived.WalkKit
namespace Go.Proofs.Ytbbjeokecgnfpaa
open Go.RowKit

/-- a fact of a value that lasts -/
structure Fact where
  p : Value → World → Prop
  mono : ∀ u w1 w2, Grow w1 w2 → p u w1 → p u w2
def Fact.any : Fact := ⟨fun _ _ => True, fun _ _ _ _ h => h⟩
def Fact.is (v : Value) : Fact := ⟨fun u _ => u = v, fun _ _ _ _ h => h⟩
/-- a slice that reads as the bytes l -/
def Fact.bytes (l : List UInt8) : Fact :=
  ⟨fun u w => ∃ A c, u = .slice A l.length c ∧ l.length ≤ c ∧ c ≤ maxLen ∧ BytesAt w w.heap.size A l.length l, fun _ _ _ hg ⟨A, c, h1, h2, h3, h4⟩ => ⟨A, c, h1, h2, h3, (h4.below hg).more hg.size⟩⟩
/-- a slice that reads as the rows ls -/
def Fact.rows (ls : List (List UInt8)) : Fact :=
  ⟨fun u w => ∃ A c, u = .slice A ls.length c ∧ RowsAt w w.heap.size A ls.length ls, fun _ _ _ hg ⟨A, c, h1, h2⟩ => ⟨A, c, h1, (h2.below hg).more hg.size⟩⟩
def Facts (l : List Fact) (i : Nat) : Value → World → Prop := (l.getD i Fact.any).p
theorem Facts.mono (l : List Fact) : ∀ i u w1 w2, Grow w1 w2 → Facts l i u w1 → Facts l i u w2 := fun i => (l.getD i Fact.any).mono
end Go.Proofs.Ytbbjeokecgnfpaa
