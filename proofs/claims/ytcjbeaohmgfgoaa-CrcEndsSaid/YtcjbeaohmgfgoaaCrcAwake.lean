/-
  The walk of mudlarklaw01's awake (the chapter's examples).
-/
import Derived.Lib.SlBytesConst
import Derived.Test.YtcjbeaohmgfgoaaCrcSum
namespace Go.Proofs.Ytcjbeaohmgfgoaa
open Go.RowKit CrcM

theorem sum_none : ((sum [].flatten).toNat : Int) = 0 := by decide
theorem sum_nine : ((sum [[49, 50, 51, 52, 53, 54, 55, 56, 57]].flatten).toNat : Int) = 3421780262 := by decide +kernel
theorem sum_zero : ((sum [[0]].flatten).toNat : Int) = 3523407757 := by decide +kernel

theorem Bit_one (w : World) : Calls Try.prog 18 #[.int .u32 1, .bool false] w fun e w' => e = .returned (.int .u32 3988292384) ∧ w = w' :=
  (Bit_any 1#32 false w).mono fun _ _ ⟨he, hw⟩ => ⟨by rw [he]; rfl, hw⟩

set_option maxRecDepth 100000 in
theorem awake01_any (w : World) : Calls Try.prog 11 #[] w fun e w' => e = .returned (.bool true) ∧ Below w.heap.size w w' := by
  have kc := fun (w : World) (C : Array Value) (n c : Nat) => Lib.run_convert_bytes_const (P := Try.prog) w 22 5 C n c Try.underlying22 Try.underlying5
  go_enter Try.func11, Try.ntmps11
  go_wp2_with fail
  refine (Sum_any w 0 none 0 0 [] RowsAt.nil (Nat.zero_le _) (Nat.zero_le _)).mono ?_
  rintro e w1 ⟨rfl, hb1⟩
  rw [sum_none]
  go_wp2_with fail
  have c9 : Cells (w1.alloc (.cells ([49, 50, 51, 52, 53, 54, 55, 56, 57].map b8).toArray 5 (9, 10))) w1.heap.size ([49, 50, 51, 52, 53, 54, 55, 56, 57].map b8).toArray := Cells.new _ _ _ _
  have d9 := Cells.new (w1.alloc (.cells ([49, 50, 51, 52, 53, 54, 55, 56, 57].map b8).toArray 5 (9, 10))) 22 #[.slice (some ⟨w1.heap.size, 0, none⟩) 9 9] (0, 0)
  rw [World.size_alloc] at d9
  refine (Sum_any _ (w1.heap.size + 2) _ 1 1 [[49, 50, 51, 52, 53, 54, 55, 56, 57]] (RowsAt.one d9 (by omega) (BytesAt.of_row (c9.alloc (by simp) _) (by omega)) (by simp) (by decide)) (by simp) (by decide)).mono ?_
  rintro e w2 ⟨rfl, hb2⟩
  rw [sum_nine]
  have hb2' : Below w.heap.size w w2 := ((hb1.alloc hb1.size _).alloc (by have := hb1.size; simp; omega) _).trans (hb2.mono (by have := hb1.size; simp; omega))
  clear c9 d9 hb2
  go_wp2_with fail
  have c1 : Cells (w2.alloc (.cells ([0].map b8).toArray 5)) w2.heap.size ([0].map b8).toArray := Cells.new _ _ _ _
  have d1 := Cells.new (w2.alloc (.cells ([0].map b8).toArray 5)) 22 #[.slice (some ⟨w2.heap.size, 0, none⟩) 1 1] (0, 0)
  rw [World.size_alloc] at d1
  refine (Sum_any _ (w2.heap.size + 2) _ 1 1 [[0]] (RowsAt.one d1 (by omega) (BytesAt.of_row (c1.alloc (by simp) _) (by omega)) (by simp) (by decide)) (by simp) (by decide)).mono ?_
  rintro e w3 ⟨rfl, hb3⟩
  rw [sum_zero]
  have hb3' : Below w.heap.size w w3 := ((hb2'.alloc hb2'.size _).alloc (by have := hb2'.size; simp; omega) _).trans (hb3.mono (by have := hb2'.size; simp; omega))
  clear c1 d1 hb3
  go_wp2_with (go_at_call 18; refine (Bit_one _).mono ?_; rintro e w4 ⟨rfl, rfl⟩)
  go_ret
  exact ⟨rfl, hb3'⟩

end Go.Proofs.Ytcjbeaohmgfgoaa
