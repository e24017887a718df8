/-
  The walks of gram's Grams, Places and At.
-/
import Derived.Test.YtamdejidkgnaeaaGramPl
import Derived.Laws.BytesArg
namespace Go.Proofs.Ytamdejidkgnaeaa
open Go.RowKit Go.Shelf GramM
set_option linter.unusedVariables false
/-- a gram's text -/
def grS (g : Gr) : ByteArray := ⟨#[g.1, g.2.1, g.2.2]⟩
def grT (gs : List Gr) : List Value := gs.map fun g => .string (grS g)
theorem conv3 (W : World) (m o c : Nat) (x y z : UInt8) (h1 : W.cell? ⟨m, o, none⟩ = some (b8 x)) (h2 : W.cell? ⟨m, o + 1, none⟩ = some (b8 y)) (h3 : W.cell? ⟨m, o + 2, none⟩ = some (b8 z)) :
    (convert 26 9 (.slice (some ⟨m, o, none⟩) 3 c)).run Try.prog W = .ok (.string ⟨#[x, y, z]⟩) W := by
  have h := run_convert_bytes_arg (P := Try.prog) W 26 5 Try.underlying26 Try.underlying5 m o 3 c [(x.toNat : Int), (y.toNat : Int), (z.toNat : Int)] rfl (fun i hi => by
    rcases i with _ | _ | _ | i
    · exact h1
    · exact h2
    · exact h3
    · omega) 9 Try.underlying9
  rw [h]
  have e : strOfNums [(x.toNat : Int), (y.toNat : Int), (z.toNat : Int)] = ⟨#[x, y, z]⟩ := by simp [strOfNums]
  rw [e]
theorem grC_len (gs : List Gr) : (grC gs).length = gs.length * 3 := by
  induction gs with
  | nil => rfl
  | cons g t ih =>
    show ([b8 g.1, b8 g.2.1, b8 g.2.2] ++ grC t).length = _
    rw [List.length_append, ih, List.length_cons]
    simp only [List.length_cons, List.length_nil]
    omega
theorem grC_get : ∀ {gs : List Gr} {k : Nat} {g : Gr}, gs[k]? = some g → (grC gs)[k * 3]? = some (b8 g.1) ∧ (grC gs)[k * 3 + 1]? = some (b8 g.2.1) ∧ (grC gs)[k * 3 + 2]? = some (b8 g.2.2)
  | [], k, g, h => by simp at h
  | h :: t, 0, g, e => by
    injection e with e
    subst e
    exact ⟨rfl, rfl, rfl⟩
  | h :: t, k + 1, g, e => by
    have := grC_get (gs := t) (k := k) (g := g) (by simpa using e)
    rw [show (k + 1) * 3 = k * 3 + 3 by omega]
    exact this
end Go.Proofs.Ytamdejidkgnaeaa
