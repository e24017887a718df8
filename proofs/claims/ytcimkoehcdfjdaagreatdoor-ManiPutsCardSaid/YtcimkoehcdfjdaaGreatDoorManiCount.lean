/-
  The walk of mudlarkkit's ManifestOf: how many parts a manifest has, up to a cap.
  A manifest that is handed in: from what the reading says to the words on memory.
-/
import Derived.Test.YtcimkoehcdfjdaaGreatDoorManiBase
namespace Go.Proofs.YtcimkoehcdfjdaaGreatDoor
open Go.RowKit WireM
set_option linter.unusedVariables false

set_option maxRecDepth 100000 in
set_option maxHeartbeats 2000000 in
theorem ManifestOf_small (w : World) (v : Value) (m : ManiM) (hM : ManiAt w w.heap.size v m) :
    Calls Tryz.prog 6 #[v, .int .i64 3000] w fun e w' => ∃ N : Nat, e = .returned (.int .i64 (N : Int)) ∧ N ≤ 281474976710656 ∧ (N ≤ 3000 → m.shards.length ≤ 3000 ∧ ∀ t ∈ m.shards, t.dead.length ≤ 3000) ∧ Grow w w' := by
  obtain ⟨⟨A, n, c, rfl, hnc, hcm, hn, hT⟩, -⟩ := hM
  unfold maxLen at hcm
  obtain ⟨w1, hw1⟩ : ∃ w1, w.alloc (.cells #[.int .i64 m.gen, .slice A n c] 24) = w1 := ⟨_, rfl⟩
  have hG : Grow w w1 := by rw [← hw1]; exact Grow.alloc _ _
  have hb1 : Blk w1 w.heap.size 24 #[.int .i64 m.gen, .slice A n c] := by rw [← hw1]; exact Blk.new _ _ _
  have HT1 := Lib.hid (show ShardsAt w1 w1.heap.size A n m.shards from (hT.keep fun p hp => hG.cell hp).more hG.size)
  have Hlen := Lib.hid hT.len
  have hc1 := hb1.cell 1
  clear hT hb1
  go_enter Tryz.func6, Tryz.ntmps6
  go_wp2
  go_loopw [5, 6] (fun v5 v6 wr => ∃ k S : Nat, k ≤ n ∧ v5 = .int .i64 (S : Int) ∧ v6 = .int .i64 (k : Int) ∧ S ≤ 281474976710656 ∧ k ≤ S ∧ Hid (∀ t ∈ m.shards.take k, t.dead.length ≤ S) ∧ w1 = wr) (fun _ v6 _ => n - (intOf v6).toNat)
  case atStart => exact ⟨0, 1, by omega, rfl, rfl, by omega, by omega, fun t ht => by simp at ht, by first | rfl | assumption⟩
  case round =>
    obtain ⟨k, S, hk, rfl, rfl, hSb, hkS, hall, rfl⟩ := hrel
    by_cases hlt : k < n
    · by_cases hs : S ≤ 3000
      · obtain ⟨t, ht⟩ : ∃ t, m.shards[k]? = some t := ⟨_, List.getElem?_eq_getElem (by rw [Hlen.out]; exact hlt)⟩
        obtain ⟨b, off, A1, n1, c1, rfl, hb, -, -, -, hp3, hn1, hcm1, hn1l, hri, -⟩ := HT1.out.at_ ht
        have Hall := Lib.hid (show ∀ u ∈ m.shards.take (k + 1), u.dead.length ≤ S + (1 + n1) from fun u hu => by
          rw [List.take_add_one, ht] at hu
          rcases List.mem_append.1 hu with hu | hu
          · have := hall.out u hu; omega
          · obtain rfl : u = t := by simpa using hu
            rw [hri.len]; omega)
        have d1 : decide ((S : Int) ≤ 3000) = true := decide_eq_true (by omega)
        clear ht hri
        go_wp2
        go_roundw
        case rel => exact ⟨k + 1, S + (1 + n1), by omega, by go_num, by go_num, by omega, by omega, Hall, trivial⟩
        case measure => simp [intOf]; omega
      · have d1 : decide ((S : Int) ≤ 3000) = false := decide_eq_false (by omega)
        go_wp2
        go_ret
        exact ⟨S, rfl, hSb, fun h => absurd h hs, hG⟩
    · obtain rfl : k = n := by omega
      go_wp2
      go_ret
      exact ⟨S, rfl, hSb, fun h => ⟨by rw [Hlen.out]; omega, fun t ht => Nat.le_trans (hall.out t (by rw [List.take_of_length_le (by rw [Hlen.out]; exact Nat.le_refl _)]; exact ht)) h⟩, hG⟩
theorem ManifestOf_any (w : World) (v : Value) (m : ManiM) (hM : ManiAt w w.heap.size v m) :
    Calls Tryz.prog 6 #[v, .int .i64 3000] w fun e w' => ∃ N : Nat, e = .returned (.int .i64 (N : Int)) ∧ N ≤ 281474976710656 ∧ Grow w w' := (ManifestOf_small w v m hM).mono fun e w' ⟨N, h1, h2, _, h3⟩ => ⟨N, h1, h2, h3⟩
end Go.Proofs.YtcimkoehcdfjdaaGreatDoor

namespace Go.Proofs.YtcimkoehcdfjdaaGreatDoor
open Go.RowKit WireM
set_option linter.unusedVariables false
set_option maxRecDepth 100000

section
variable {H : Type} {enc : TypeId × Value → H} {w : World}
theorem listOf4 {α : Type} {l : List α} (h : l.length = 4) : ∃ a b c d, l = [a, b, c, d] := by
  match l, h with
  | [a, b, c, d], _ => exact ⟨a, b, c, d, rfl⟩
theorem readsBy_ShardRef : ReadsBy enc Tryz.prog w 52 (ShardCells w w.heap.size) := fun m cs y h hz => by
  obtain ⟨hl, hf⟩ := open_fields_of (show fieldsOf Tryz.prog 52 = some [(3, 0), (3, 1), (50, 2), (49, 3)] by kernel_rfl) h hz
  rw [show Tryz.prog.cellsOf 52 = 4 by kernel_rfl] at hl
  obtain ⟨x0, x1, x2, x3, rfl⟩ := listOf4 hl
  have ci : Tryz.prog.cellsOf 3 = 1 := by kernel_rfl
  obtain ⟨m0, y0, h0, z0⟩ := hf 0 _ _ rfl
  obtain ⟨m1, y1, h1, z1⟩ := hf 1 _ _ rfl
  obtain ⟨m2, y2, h2, z2⟩ := hf 2 _ _ rfl
  obtain ⟨m3, y3, h3, z3⟩ := hf 3 _ _ rfl
  rw [ci] at h0 h1
  rw [show Tryz.prog.cellsOf 50 = 1 by kernel_rfl] at h2
  rw [show Tryz.prog.cellsOf 49 = 1 by kernel_rfl] at h3
  obtain ⟨a0, e0, r0⟩ := readsBy_i64 Tryz.underlying3 _ _ _ h0 z0
  obtain ⟨a1, e1, r1⟩ := readsBy_i64 Tryz.underlying3 _ _ _ h1 z1
  obtain ⟨a2, e2, r2⟩ := readsBy_int Tryz.underlying50 _ _ _ h2 z2
  obtain ⟨b2, rfl⟩ := u32_of_wf r2
  obtain ⟨l3, A3, n3, c3, e3, p3, _, q3, s3⟩ := readsBy_slice Tryz.underlying49 1 8 (by kernel_rfl) (by kernel_rfl) (by omega) (readsBy_i64 Tryz.underlying3) _ _ _ h3 z3
  obtain ⟨i3, w3⟩ := intsAt_of s3
  have g0 : x0 = .int .i64 a0 := by simpa using e0
  have g1 : x1 = .int .i64 a1 := by simpa using e1
  have g2 : x2 = .int .u32 (b2.toNat : Int) := by simpa using e2
  have g3 : x3 = .slice A3 n3 c3 := by simpa using e3
  subst g0 g1 g2 g3
  exact ⟨⟨a0, a1, b2, l3⟩, A3, n3, c3, rfl, p3, by unfold maxLen; omega, by omega, i3, r0, r1, w3⟩
theorem readsBy_Manifest : ReadsBy enc Tryz.prog w 24 (fun cs (m : ManiM) => ManiAt w w.heap.size (.agg cs.toArray) m) := fun k cs y h hz => by
  obtain ⟨hl, hf⟩ := open_fields_of (show fieldsOf Tryz.prog 24 = some [(3, 0), (22, 1)] by kernel_rfl) h hz
  rw [show Tryz.prog.cellsOf 24 = 2 by kernel_rfl] at hl
  obtain ⟨x0, x1, rfl⟩ := list2 hl
  obtain ⟨m0, y0, h0, z0⟩ := hf 0 _ _ rfl
  obtain ⟨m1, y1, h1, z1⟩ := hf 1 _ _ rfl
  rw [show Tryz.prog.cellsOf 3 = 1 by kernel_rfl] at h0
  rw [show Tryz.prog.cellsOf 22 = 1 by kernel_rfl] at h1
  obtain ⟨a0, e0, r0⟩ := readsBy_i64 Tryz.underlying3 _ _ _ h0 z0
  obtain ⟨l1, A1, n1, c1, e1, p1, _, q1, s1⟩ := readsBy_slice Tryz.underlying22 4 48 (by kernel_rfl) (by kernel_rfl) (by omega) readsBy_ShardRef _ _ _ h1 z1
  have g0 : x0 = .int .i64 a0 := by simpa using e0
  have g1 : x1 = .slice A1 n1 c1 := by simpa using e1
  subst g0 g1
  exact ⟨⟨a0, l1⟩, ⟨A1, n1, c1, rfl, p1, by unfold maxLen; omega, by omega, s1⟩, r0⟩
theorem open_manifest {v : Value} {d : DataW H} {p : List MemPlace} {fs : Array Field} (ht : Tryz.prog.underlying 24 = some (.struct fs)) (h : DataW.Trod enc Tryz.prog w 0 (fun _ => true) true 24 v d p) (hz : Within Tryz.prog 24 d) {r : Reach} {base : Nat} (hv : Value.okWide Tryz.prog w r base 24 v) :
    ∃ m : ManiM, ManiAt w w.heap.size v m := by
  obtain ⟨cs, rfl, -⟩ := Go.WideShapes.okWide_struct ht hv
  obtain ⟨m, hm⟩ := open_by readsBy_Manifest h hz
  exact ⟨m, by simpa [Value.cells] using hm⟩
end
end Go.Proofs.YtcimkoehcdfjdaaGreatDoor
