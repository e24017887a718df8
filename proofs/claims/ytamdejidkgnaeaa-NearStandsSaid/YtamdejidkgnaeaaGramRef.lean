/-
  The walks of the document's At and Run.
-/
import Derived.Test.YtamdejidkgnaeaaGramAt
import Derived.Test.YtamdejidkgnaeaaBaseE
import Derived.Laws.DeepStrings4
namespace Go.Proofs.Ytamdejidkgnaeaa
open Go.RowKit Go.Shelf GramM
set_option linter.unusedVariables false
/-- texts that are told -/
def TextsTo (w : World) (gs : List Gr) (e : Ending) (w' : World) : Prop := ∃ v, e = .returned v ∧ Grow w w' ∧ w'.ownsRow w.heap.size 9 1 v gs.length (grT gs)
theorem grT_snoc (gs : List Gr) (g : Gr) : grT (gs ++ [g]) = grT gs ++ [.string (grS g)] := by simp [grT]
/-- three bytes of a text are a gram -/
theorem ext3 (s : ByteArray) (k : Nat) (g : Gr) (h : (grams s.data.toList)[k]? = some g) : s.extract k (k + 3) = grS g := by
  obtain ⟨h1, h2, h3⟩ := grams_of h
  have hl : k + 2 < s.data.size := by
    have := (List.getElem?_eq_some_iff.1 h3).1
    simpa using this
  have hl2 : k + 2 < s.size := hl
  have e : (s.extract k (k + 3)).data = #[g.1, g.2.1, g.2.2] := by
    rw [ByteArray.data_extract]
    refine Array.ext (by simp only [Array.size_extract, List.size_toArray, List.length_cons, List.length_nil]; omega) fun i hi1 hi2 => ?_
    rw [Array.getElem_extract]
    have hi : i < 3 := by simpa using hi2
    have hget : ∀ (j : Nat) (x : UInt8) (hj : j < s.data.size), s.data.toList[j]? = some x → s.data[j] = x := fun j x hj h => by
      rw [Array.getElem?_toList, Array.getElem?_eq_getElem hj] at h
      injection h
    rcases i with _ | _ | _ | i
    · exact hget _ _ (by omega) h1
    · exact hget _ _ (by omega) h2
    · exact hget _ _ (by omega) h3
    · omega
  show s.extract k (k + 3) = ⟨#[g.1, g.2.1, g.2.2]⟩
  rw [← e]
end Go.Proofs.Ytamdejidkgnaeaa
