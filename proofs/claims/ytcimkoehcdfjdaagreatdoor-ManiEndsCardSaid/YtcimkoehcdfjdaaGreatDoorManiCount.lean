/-
  The walk of mudlarkkit's ManifestOf: how many parts a manifest has, up to a cap.
  A manifest that is handed in: from what the reading says to the words on memory.
-/
import Derived.Test.YtcimkoehcdfjdaaGreatDoorManiBase
namespace Go.Proofs.YtcimkoehcdfjdaaGreatDoor
open Go.RowKit WireM
set_option linter.unusedVariables false

set_option maxRecDepth 100000 in
set_option maxHeartbeats 2000000 in
theorem ManifestOf_small (w : World) (v : Value) (m : ManiM) (hM : ManiAt w w.heap.size v m) :
  Calls Tryz.prog 6 #[v, .int .i64 3000] w fun e w' => ∃ N : Nat, e = .returned (.int .i64 (N : Int)) ∧ N ≤ 281474976710656 ∧ (N ≤ 3000 → m.shards.length ≤ 3000 ∧ ∀ t ∈ m.shards, t.dead.length ≤ 3000) ∧ Grow w w' := by
 obtain ⟨⟨A, n, c, rfl, hnc, hcm, hn, hT⟩, -⟩ := hM
 unfold maxLen at hcm
 obtain ⟨w1, hw1⟩ : ∃ w1, w.alloc (.cells #[.int .i64 m.gen, .slice A n c] 24) = w1 := ⟨_, rfl⟩
 have hG : Grow w w1 := by rw [← hw1]; exact Grow.alloc _ _
 have hb1 : Blk w1 w.heap.size 24 #[.int .i64 m.gen, .slice A n c] := by rw [← hw1]; exact Blk.new _ _ _
 have HT1 := Lib.hid (show ShardsAt w1 w1.heap.size A n m.shards from (hT.keep fun p hp => hG.cell hp).more hG.size)
 have Hlen := Lib.hid hT.len
 have hc1 := hb1.cell 1
 clear hT hb1
 go_enter Tryz.func6, Tryz.ntmps6
 go_wp2
 go_loopw [5, 6] (fun v5 v6 wr => ∃ k S : Nat, k ≤ n ∧ v5 = .int .i64 (S : Int) ∧ v6 = .int .i64 (k : Int) ∧ S ≤ 281474976710656 ∧ k ≤ S ∧ Hid (∀ t ∈ m.shards.take k, t.dead.length ≤ S) ∧ w1 = wr) (fun _ v6 _ => n - (intOf v6).toNat)
 case atStart => exact ⟨0, 1, by omega, rfl, rfl, by omega, by omega, fun t ht => by simp at ht, by first | rfl | assumption⟩
 case round =>
  obtain ⟨k, S, hk, rfl, rfl, hSb, hkS, hall, rfl⟩ := hrel
  by_cases hlt : k < n
  ·by_cases hs : S ≤ 3000
   ·obtain ⟨t, ht⟩ : ∃ t, m.shards[k]? = some t := ⟨_, List.getElem?_eq_getElem (by rw [Hlen.out]; exact hlt)⟩
    obtain ⟨b, off, A1, n1, c1, rfl, hb, -, -, -, hp3, hn1, hcm1, hn1l, hri, -⟩ := HT1.out.at_ ht
    have Hall := Lib.hid (show ∀ u ∈ m.shards.take (k + 1), u.dead.length ≤ S + (1 + n1) from fun u hu => by
     rw [List.take_add_one, ht] at hu
     rcases List.mem_append.1 hu with hu | hu
     ·have := hall.out u hu; omega
     ·obtain rfl : u = t := by simpa using hu
      rw [hri.len]; omega)
    have d1 : decide ((S : Int) ≤ 3000) = true := decide_eq_true (by omega)
    clear ht hri
    go_wp2
    go_roundw
    case rel => exact ⟨k + 1, S + (1 + n1), by omega, by go_num, by go_num, by omega, by omega, Hall, trivial⟩
    case measure => simp [intOf]; omega
   ·have d1 : decide ((S : Int) ≤ 3000) = false := decide_eq_false (by omega)
    go_wp2
    go_ret
    exact ⟨S, rfl, hSb, fun h => absurd h hs, hG⟩
  ·obtain rfl : k = n := by omega
   go_wp2
   go_ret
   exact ⟨S, rfl, hSb, fun h => ⟨by rw [Hlen.out]; omega, fun t ht => Nat.le_trans (hall.out t (by rw [List.take_of_length_le (by rw [Hlen.out]; exact Nat.le_refl _)]; exact ht)) h⟩, hG⟩
end Go.Proofs.YtcimkoehcdfjdaaGreatDoor

namespace Go.Proofs.YtcimkoehcdfjdaaGreatDoor
open Go.RowKit WireM
set_option linter.unusedVariables false
set_option maxRecDepth 100000

section
variable {H : Type} {enc : TypeId × Value → H} {w : World}
end
end Go.Proofs.YtcimkoehcdfjdaaGreatDoor
