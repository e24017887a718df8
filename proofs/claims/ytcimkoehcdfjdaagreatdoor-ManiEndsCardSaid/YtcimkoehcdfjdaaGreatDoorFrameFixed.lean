/-
  The walk of frame's fixed: a fixed number's bytes.
-/
import Derived.Test.YtcimkoehcdfjdaaGreatDoorPutOne
import Derived.Test.YtcimkoehcdfjdaaGreatDoorWBytes
namespace Go.Proofs.YtcimkoehcdfjdaaGreatDoor
open Go.RowKit WireM

set_option maxRecDepth 100000 in
set_option maxHeartbeats 1000000 in
theorem ffixed_any (w : World) (x : BitVec 32) :
  Calls Tryz.prog 65 #[.int .u32 (x.toNat : Int)] w fun e w' => ∃ r B, e = .returned r ∧ w.heap.size ≤ B ∧ w'.ownsRow B 5 1 r (fourB x).length ((fourB x).map b8) ∧ Grow w w' := by
 go_enter Tryz.func65, Tryz.ntmps65
 go_wp2_with fail
 have hW0 : Wr 67 (w.alloc (.cells #[.slice none 0 0, .bool false] 67)) w.heap.size w.heap.size (.slice none 0 0) [] false := ⟨Blk.new _ _ _, World.ownsRow_nil _ _ _ _, Nat.le_refl _⟩
 refine (WFixed_any _ w.heap.size w.heap.size _ [] false x hW0 (by simp)).mono ?_
 rintro e w1 ⟨rfl, v1, h1, h2⟩
 have hG1 : Grow w w1 := Below.trans (Grow.alloc w _) (h2.keep.below (B := w.heap.size) hW0.ge (by simp))
 have hB1 := WBytes_any w1 _ _ v1 _ _ h1 (by simp [fourB])
 rw [stOf_false, told, List.nil_append] at hB1
 have HB1 := Lib.hid hB1
 clear hB1 h1 h2 hW0
 go_wp2_with fail
 refine HB1.out.mono ?_
 rintro e w2 ⟨r, rfl, hown, hg⟩
 go_wp2
 go_ret
 exact ⟨r, _, rfl, hG1.size, hown, hG1.trans hg⟩
end Go.Proofs.YtcimkoehcdfjdaaGreatDoor
