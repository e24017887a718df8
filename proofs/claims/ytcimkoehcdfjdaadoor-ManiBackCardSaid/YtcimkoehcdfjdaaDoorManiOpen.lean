/-
  A manifest that is handed in: from what the reading says to the words on memory.
-/
import Derived.Test.YtcimkoehcdfjdaaDoorSameShards
namespace Go.Proofs.YtcimkoehcdfjdaaDoor
open Go.RowKit WireM
set_option linter.unusedVariables false
set_option maxRecDepth 100000

section
variable {H : Type} {enc : TypeId × Value → H} {w : World}
theorem listOf4 {α : Type} {l : List α} (h : l.length = 4) : ∃ a b c d, l = [a, b, c, d] := by
  match l, h with
  | [a, b, c, d], _ => exact ⟨a, b, c, d, rfl⟩
theorem readsBy_ShardRef : ReadsBy enc Tryd.prog w 52 (ShardCells w w.heap.size) := fun m cs y h hz => by
  obtain ⟨hl, hf⟩ := open_fields_of (show fieldsOf Tryd.prog 52 = some [(3, 0), (3, 1), (46, 2), (22, 3)] by kernel_rfl) h hz
  rw [show Tryd.prog.cellsOf 52 = 4 by kernel_rfl] at hl
  obtain ⟨x0, x1, x2, x3, rfl⟩ := listOf4 hl
  have ci : Tryd.prog.cellsOf 3 = 1 := by kernel_rfl
  obtain ⟨m0, y0, h0, z0⟩ := hf 0 _ _ rfl
  obtain ⟨m1, y1, h1, z1⟩ := hf 1 _ _ rfl
  obtain ⟨m2, y2, h2, z2⟩ := hf 2 _ _ rfl
  obtain ⟨m3, y3, h3, z3⟩ := hf 3 _ _ rfl
  rw [ci] at h0 h1
  rw [show Tryd.prog.cellsOf 46 = 1 by kernel_rfl] at h2
  rw [show Tryd.prog.cellsOf 22 = 1 by kernel_rfl] at h3
  obtain ⟨a0, e0, r0⟩ := readsBy_i64 Tryd.underlying3 _ _ _ h0 z0
  obtain ⟨a1, e1, r1⟩ := readsBy_i64 Tryd.underlying3 _ _ _ h1 z1
  obtain ⟨a2, e2, r2⟩ := readsBy_int Tryd.underlying46 _ _ _ h2 z2
  obtain ⟨b2, rfl⟩ := u32_of_wf r2
  obtain ⟨l3, A3, n3, c3, e3, p3, _, q3, s3⟩ := readsBy_slice Tryd.underlying22 1 8 (by kernel_rfl) (by kernel_rfl) (by omega) (readsBy_i64 Tryd.underlying3) _ _ _ h3 z3
  obtain ⟨i3, w3⟩ := intsAt_of s3
  have g0 : x0 = .int .i64 a0 := by simpa using e0
  have g1 : x1 = .int .i64 a1 := by simpa using e1
  have g2 : x2 = .int .u32 (b2.toNat : Int) := by simpa using e2
  have g3 : x3 = .slice A3 n3 c3 := by simpa using e3
  subst g0 g1 g2 g3
  exact ⟨⟨a0, a1, b2, l3⟩, A3, n3, c3, rfl, p3, by unfold maxLen; omega, by omega, i3, r0, r1, w3⟩
theorem readsBy_Manifest : ReadsBy enc Tryd.prog w 34 (fun cs (m : ManiM) => ManiAt w w.heap.size (.agg cs.toArray) m) := fun k cs y h hz => by
  obtain ⟨hl, hf⟩ := open_fields_of (show fieldsOf Tryd.prog 34 = some [(3, 0), (32, 1)] by kernel_rfl) h hz
  rw [show Tryd.prog.cellsOf 34 = 2 by kernel_rfl] at hl
  obtain ⟨x0, x1, rfl⟩ := list2 hl
  obtain ⟨m0, y0, h0, z0⟩ := hf 0 _ _ rfl
  obtain ⟨m1, y1, h1, z1⟩ := hf 1 _ _ rfl
  rw [show Tryd.prog.cellsOf 3 = 1 by kernel_rfl] at h0
  rw [show Tryd.prog.cellsOf 32 = 1 by kernel_rfl] at h1
  obtain ⟨a0, e0, r0⟩ := readsBy_i64 Tryd.underlying3 _ _ _ h0 z0
  obtain ⟨l1, A1, n1, c1, e1, p1, _, q1, s1⟩ := readsBy_slice Tryd.underlying32 4 48 (by kernel_rfl) (by kernel_rfl) (by omega) readsBy_ShardRef _ _ _ h1 z1
  have g0 : x0 = .int .i64 a0 := by simpa using e0
  have g1 : x1 = .slice A1 n1 c1 := by simpa using e1
  subst g0 g1
  exact ⟨⟨a0, l1⟩, ⟨A1, n1, c1, rfl, p1, by unfold maxLen; omega, by omega, s1⟩, r0⟩
theorem open_manifest {v : Value} {d : DataW H} {p : List MemPlace} {fs : Array Field} (ht : Tryd.prog.underlying 34 = some (.struct fs)) (h : DataW.Trod enc Tryd.prog w 0 (fun _ => true) true 34 v d p) (hz : Within Tryd.prog 34 d) {r : Reach} {base : Nat} (hv : Value.okWide Tryd.prog w r base 34 v) :
    ∃ m : ManiM, ManiAt w w.heap.size v m := by
  obtain ⟨cs, rfl, -⟩ := Go.WideShapes.okWide_struct ht hv
  obtain ⟨m, hm⟩ := open_by readsBy_Manifest h hz
  exact ⟨m, by simpa [Value.cells] using hm⟩
end
end Go.Proofs.YtcimkoehcdfjdaaDoor
