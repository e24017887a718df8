/-
  The map of grams and their places, as it is built: each gram's places lie in a row of their own.
-/
import Derived.Test.YtamdejidkgnaeaaGramMap
import Derived.Test.YtamdejidkgnaeaaBaseE
namespace Go.Proofs.Ytamdejidkgnaeaa
open Go.RowKit GramM
set_option linter.unusedVariables false
/-- a place's cells; a gram's -/
def plC (l : List Nat) : List Value := l.flatMap fun i : Nat => [.int .i64 0, .int .i64 (i : Int)]
def grC (l : List Gr) : List Value := l.flatMap fun g => [b8 g.1, b8 g.2.1, b8 g.2.2]
theorem plC_snoc (l : List Nat) (i : Nat) : plC (l ++ [i]) = plC l ++ [.int .i64 0, .int .i64 (i : Int)] := by simp [plC]
theorem grC_snoc (l : List Gr) (g : Gr) : grC (l ++ [g]) = grC l ++ [b8 g.1, b8 g.2.1, b8 g.2.2] := by simp [grC]
/-- block Mp is the map of the grams ks, in the order in which they came; what stands at g owns the places f g -/
def MapOf (W : World) (base Mp : Nat) (ks : List Gr) (f : Gr → List Nat) : Prop :=
  ∃ es, GMapAt W Mp es ∧ es.map (·.1) = ks ∧ (∀ g v, (g, v) ∈ es → W.ownsRow base 33 2 v (f g).length (plC (f g))) ∧
    (∀ g v g' v' b, (g, v) ∈ es → (g', v') ∈ es → g ≠ g' → v.ownBlock = some b → v'.ownBlock ≠ some b)
section
variable {W W1 W2 : World} {base Mp : Nat} {ks : List Gr} {f f' : Gr → List Nat}
theorem MapOf.lt (h : MapOf W base Mp ks f) : Mp < W.heap.size := by
  obtain ⟨es, h1, -⟩ := h
  exact h1.lt
theorem MapOf.keep {S : Nat → Prop} (h : MapOf W base Mp ks f) (hk : Keep S W W1) (hM : ¬ S Mp) (hS : ∀ j cs, S j → W.heap[j]? ≠ some (.cells cs 33 (0, 0))) : MapOf W1 base Mp ks f := by
  obtain ⟨es, h1, h2, h3, h4⟩ := h
  refine ⟨es, h1.keep hk hM, h2, fun g v hm => hk.own (h3 g v hm) fun b hb hs => ?_, h4⟩
  obtain ⟨cs, hc⟩ := own_obj (h3 g v hm) hb
  exact hS b cs hs hc
theorem MapOf.grow (h : MapOf W base Mp ks f) (hk : Grow W W1) : MapOf W1 base Mp ks f := h.keep (Keep.grow (S := fun _ => False) hk) (fun h => h) fun _ _ h => h.elim
theorem MapOf.congr (h : MapOf W base Mp ks f) {ks'} (h1 : ks = ks') (h2 : ∀ g ∈ ks, f g = f' g) : MapOf W base Mp ks' f' := by
  obtain ⟨es, h3, h4, h5, h6⟩ := h
  refine ⟨es, h3, h4.trans h1, fun g v hm => ?_, h6⟩
  have hg : g ∈ ks := by
    rw [← h4]
    exact List.mem_map.2 ⟨_, hm, rfl⟩
  have := h5 g v hm
  rwa [h2 g hg] at this
end
end Go.Proofs.Ytamdejidkgnaeaa
