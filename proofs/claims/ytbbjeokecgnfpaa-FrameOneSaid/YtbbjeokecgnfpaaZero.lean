/-
  The zero value of the sum's table, where the loaded program does not name it.
-/
import Derived.Test.YtbbjeokecgnfpaaProg
import Derived.WalkKit
namespace Go.Proofs.Ytbbjeokecgnfpaa
def Try.zeroCells66 : Array Value := Array.replicate 256 (.int .u32 0)
@[simp] theorem tableZero (w : World) : (zeroValue 66).run Try.prog w = .ok (.agg Try.zeroCells66) w := by kernel_rfl
@[simp] theorem tableZero_size : Try.zeroCells66.size = 256 := by simp [Try.zeroCells66]
@[simp] theorem tableZero_ne : Try.zeroCells66 ≠ #[] := fun h => by
  have h2 := tableZero_size
  rw [h] at h2
  cases h2
end Go.Proofs.Ytbbjeokecgnfpaa
