/-
  Words for blocks of memory that are known whole. No program is in sight.
-/
import Derived.RangeFuncBox
import Derived.Laws.Rows
import Derived.Deep.Draws
import Derived.Laws.OwnMore
namespace Go.Proofs.Ytbbjeokecgnfpaa
open Go.RowKit

theorem ret_int {k : IntKind} {a b : Int} (h : a = b) : Ending.returned (.int k a) = .returned (.int k b) := by rw [h]
theorem ret_bool {a b : Bool} (h : a = b) : Ending.returned (.bool a) = .returned (.bool b) := by rw [h]

/-- block g is the cells cs of type t, none of them frozen -/
def Blk (w : World) (g : Nat) (t : TypeId) (cs : Array Value) : Prop := w.heap[g]? = some (.cells cs t (0, 0))

section
variable {w w' : World} {g t : Nat} {cs : Array Value}
theorem Blk.lt (h : Blk w g t cs) : g < w.heap.size := (Array.getElem?_eq_some_iff.1 h).1
theorem Blk.cell (h : Blk w g t cs) (i : Nat) : w.cell? ⟨g, i, none⟩ = cs[i]? := by
  simp only [World.cell?, show w.heap[g]? = _ from h]; rfl
theorem Blk.frozen (h : Blk w g t cs) (i : Nat) : w.frozen? ⟨g, i, none⟩ = false := by
  simp [World.frozen?, show w.heap[g]? = _ from h]
theorem Blk.new (w : World) (t : Nat) (cs : Array Value) : Blk (w.alloc (.cells cs t)) w.heap.size t cs := World.alloc_heap_new w _
theorem Blk.kept (h : Blk w g t cs) (hk : w'.heap[g]? = w.heap[g]?) : Blk w' g t cs := hk.trans h
theorem Blk.alloc (h : Blk w g t cs) (o : Obj) : Blk (w.alloc o) g t cs := (Below.heap_alloc w o g h.lt).trans h
theorem Blk.set (h : Blk w g t cs) (i : Nat) (u : Value) : Blk (w.setCell ⟨g, i, none⟩ u) g t (cs.setIfInBounds i u) := by
  unfold Blk at h ⊢
  simp [World.setCell, Array.getElem?_modify, h]
theorem Blk.far (h : Blk w g t cs) {p : Addr} (hp : g ≠ p.block) (u : Value) : Blk (w.setCell p u) g t cs := (Below.heap_setCell w p u g hp).trans h
theorem Blk.below {B : Nat} (h : Blk w g t cs) (hb : Below B w w') (hg : g < B) : Blk w' g t cs := (hb.block g hg).trans h
theorem Blk.grown {row : Option Nat} (h : Blk w g t cs) (hb : w.grownBy w' row) (hg : some g ≠ row) : Blk w' g t cs := (hb.block g h.lt hg).trans h
theorem Blk.boxed {v : Value} (h : Blk w g t #[v]) : Boxed w g t v := h
end
/-- block g's cells read as cs, whatever its mark -/
def Cells (w : World) (g : Nat) (cs : Array Value) : Prop := ∀ i, w.cell? ⟨g, i, none⟩ = cs[i]?
theorem Blk.cells {w : World} {g t : Nat} {cs : Array Value} (h : Blk w g t cs) : Cells w g cs := h.cell
theorem Cells.new (w : World) (t : Nat) (cs : Array Value) (fr : Nat × Nat) : Cells (w.alloc (.cells cs t fr)) w.heap.size cs := fun i => by
  have h : (w.alloc (.cells cs t fr)).heap[w.heap.size]? = some (.cells cs t fr) := World.alloc_heap_new w _
  simp only [World.cell?, h]
  rfl
theorem Cells.below {w w' : World} {g B : Nat} {cs : Array Value} (h : Cells w g cs) (hb : Below B w w') (hg : g < B) : Cells w' g cs := fun i => (hb.cell (p := ⟨g, i, none⟩) hg).trans (h i)
theorem Cells.alloc {w : World} {g : Nat} {cs : Array Value} (h : Cells w g cs) (hg : g < w.heap.size) (o : Obj) : Cells (w.alloc o) g cs := h.below ((Below.refl w.heap.size w).alloc (Nat.le_refl _) o) hg
theorem heap_setCell_ne (w : World) {g k : Nat} (h : k ≠ g) (i : Nat) (u : Value) : (w.setCell ⟨g, i, none⟩ u).heap[k]? = w.heap[k]? := Below.heap_setCell w ⟨g, i, none⟩ u k h
theorem size_setCell (w : World) (p : Addr) (u : Value) : (w.setCell p u).heap.size = w.heap.size := by simp [World.setCell]
theorem below_grown {B : Nat} {w w' : World} {row : Option Nat} (hg : w.grownBy w' row) (hB : B ≤ w.heap.size) (hr : ∀ k, row = some k → B ≤ k) : Below B w w' := (Below.refl B w).grown hg hB hr
theorem below_grown1 {B : Nat} {w w' : World} {r : Nat} (hg : w.grownBy w' (some r)) (hB : B ≤ w.heap.size) (hr : B ≤ r) : Below B w w' := (Below.refl B w).grown hg hB (fun k e => by cases e; exact hr)
end Go.Proofs.Ytbbjeokecgnfpaa
