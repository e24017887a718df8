/-
  The walk of gram's places: the map of the grams, and the grams, rising.
-/
import Derived.Test.YtamdejidkgnaeaaGramAll
import Derived.Test.YtamdejidkgnaeaaGramRows
import Derived.Test.YtamdejidkgnaeaaGramCmp
import Derived.Deep.LoopGhost
import Derived.BigQuiet
import Derived.WalkMore
import Derived.RangeFuncBox
import Derived.RangeFuncCalls
import Derived.RegionIn
import Derived.BigRegionIn
namespace Go.Proofs.Ytamdejidkgnaeaa
open Go.RowKit Go.Shelf GramM
set_option linter.unusedVariables false
attribute [local go_sem] Oper.semAt_some
theorem blkOf {w w1 : World} (hg : Grow w w1) {k t : Nat} {cs : Array Value} (h : Blk w k t cs) : Blk w1 k t cs := h.below hg h.lt
theorem readsP (w : World) (t s : Nat) (cs : List Value) (h : cs.length = 1 * s) : ReadsAt (w.alloc (.cells cs.toArray t)) (w.heap.size + 1) s (some ⟨w.heap.size, 0, none⟩) 1 cs :=
  ⟨h, fun _ => ⟨w.heap.size, 0, rfl, by omega, fun j u hu => by
    rw [(Blk.new w t cs.toArray).cell, Nat.zero_add]
    simpa using hu⟩⟩
theorem own_made (w : World) (t s base : Nat) (cs : List Value) (h : cs.length = 1 * s) (hb : base ≤ w.heap.size) : (w.alloc (.cells cs.toArray t)).ownsRow base t s (.slice (some ⟨w.heap.size, 0, none⟩) 1 1) 1 cs :=
  ⟨h, Or.inr ⟨w.heap.size, 1, cs.toArray, rfl, hb, heap_alloc_new w _, Nat.le_refl _, by unfold maxLen; omega, by simp [h], by rw [← h]; simp⟩⟩
theorem lastQ.update {P : Program} {o : Oper} {Q : Exit → Act → World → Prop} {a : Act} {w w' : World} (ty : TypeId) (s1 s2 s3 : Nat) (ho : o.op = .mapUpdate ty (.tmp s1) (.tmp s2) (.tmp s3)) {u1 u2 u3 : Value} (h1 : a.tmps[s1]? = some u1) (h2 : a.tmps[s2]? = some u2) (h3 : a.tmps[s3]? = some u3)
    (hr : (Instr.mapUpdate ty u1 u2 u3).run P w = .ok () w') (h : Q .normal (a.put o.dst undef) w') : lastQ P o Q .normal a w := by
  refine Or.inl ⟨rfl, ?_⟩
  unfold Oper.wp execOp
  simp only [ho, Sem.run_bind, evalT h1, evalT h2, evalT h3, hr, Result.andThen_ok, Sem.run_pure]
  exact h
/-- a slice of one new place -/
def FactOn.newS1 {S : Nat → Prop} (B0 : Nat) (hS : ∀ k, S k → k < B0) (t : TypeId) (cs : List Value) : FactOn (Keep S) :=
  ⟨fun u w => ∃ m, u = .slice (some ⟨m, 0, none⟩) 1 1 ∧ B0 ≤ m ∧ Blk w m t cs.toArray, fun _ _ _ hk ⟨m, h1, h2, h3⟩ => ⟨m, h1, h2, hk.blk h3 (fun hs => by have := hS m hs; omega)⟩⟩
theorem readsB {w : World} {t s g : Nat} {cs : List Value} (h : cs.length = 1 * s) (hb : Blk w g t cs.toArray) : ReadsAt w w.heap.size s (some ⟨g, 0, none⟩) 1 cs :=
  ⟨h, fun _ => ⟨g, 0, rfl, hb.lt, fun j u hu => by
    rw [hb.cell, Nat.zero_add]
    simpa using hu⟩⟩
/-- the one place is put behind a gram's -/
def plW (w0 : World) (l : Value) (base n : Nat) (xs : List Value) : List Value → World → Prop
  | [], w => Grow w0 w
  | [v], w => w.ownsRow base 33 2 v n xs ∧ Keep (fun j => l.ownBlock = some j) w0 w ∧ ∀ b, v.ownBlock = some b → l.ownBlock = some b ∨ w0.heap.size ≤ b
  | _, _ => False
theorem plW.grow {w0 : World} {l : Value} {base n : Nat} {xs : List Value} : ∀ (vals : List Value) (x y : World), Grow x y → plW w0 l base n xs vals x → plW w0 l base n xs vals y
  | [], _, _, g, h => Grow.trans h g
  | [_], _, _, g, ⟨h1, h2, h3⟩ => ⟨own_below h1 g, h2.trans' (Keep.grow g), h3⟩
  | _ :: _ :: _, _, _, _, h => h
/-- the grams, rising -/
def sortG (gs : List Gr) : List Gr := gs.mergeSort fun x y => !decide (numG y < numG x)
theorem sortG_perm (gs : List Gr) : (sortG gs).Perm gs := List.mergeSort_perm _ _
theorem sortG_len (gs : List Gr) : (sortG gs).length = gs.length := (sortG_perm gs).length_eq
/-- what places tells -/
def PlTo (w : World) (gs : List Gr) (e : Ending) (w' : World) : Prop :=
  ∃ v, e = .returned (.tuple #[.map (some w.heap.size), v]) ∧ Grow w w' ∧ MapOf w' (w.heap.size + 3) w.heap.size (firsts [] gs) (fun g => posOf gs g gs.length) ∧ w'.ownsRow (w.heap.size + 3) 69 3 v (firsts [] gs).length (grC (sortG (firsts [] gs)))
end Go.Proofs.Ytamdejidkgnaeaa
