/-
  What the library's variables hold when a call begins, out of the row's list.
-/
import Derived.Stop.LaidErr
import Derived.Lib.LaidTab
import Derived.LaidLaws
import Derived.LaidMore
import Derived.Test.YtcimkoehcdfjdaaGreatDoorRows
import Derived.Test.YtcimkoehcdfjdaaGreatDoorManiNm
namespace Go.Proofs.YtcimkoehcdfjdaaGreatDoor
open Go.ChangeShapes Go.WideShapes Go.RowKit

theorem star_errStr : "*" ++ "errors.errorString" = "*errors.errorString" := by decide
theorem row_errStr (u : TypeId) (h : Tryz.prog.typeName? 3 u = some "*errors.errorString") : u = 287 :=
 typeName_ptr_named (nm := "errors.errorString") (by rw [star_errStr]; kernel_rfl) (by kernel_rfl) (by decide) u (by rw [star_errStr]; exact h)
theorem cells_errStr : Tryz.prog.cellsOf 289 = 1 := by kernel_rfl
theorem cells_string : Tryz.prog.cellsOf 9 = 1 := by kernel_rfl
theorem cells_u64 : Tryz.prog.cellsOf 148 = 1 := by kernel_rfl
theorem cells_arr20 : Tryz.prog.cellsOf 291 = 20 := by kernel_rfl
theorem g_pow10 : Tryz.prog.globalNamed "internal/strconv.uint64pow10" = some 2 := by kernel_rfl
theorem g_syntax : Tryz.prog.globalNamed "strconv.ErrSyntax" = some 0 := by kernel_rfl
theorem g_range : Tryz.prog.globalNamed "strconv.ErrRange" = some 1 := by kernel_rfl
theorem gt_pow10 : (Tryz.prog.globals[2]?).map (·.type) = some 291 := by kernel_rfl
theorem gt_syntax : (Tryz.prog.globals[0]?).map (·.type) = some 115 := by kernel_rfl
theorem gt_range : (Tryz.prog.globals[1]?).map (·.type) = some 115 := by kernel_rfl
theorem pow10_data : (Rows.laid_internal_strconv_uint64pow10 : DataW Unit) = Lib.tabData .u64 Lib.pow10Tab := rfl
theorem laidOk_of {W : World} (h : laidMetH Tryz.prog Rows.maniPutsRow.laid W) : LaidOk W := by
 rw [MakeChecks.laidMetH_plain _ _ _ (by kernel_rfl)] at h
 have h2 := h.tail.tail
 have h3 : laidMet Tryz.prog (("internal/strconv.uint64pow10", Rows.laid_internal_strconv_uint64pow10) :: ("strconv.ErrRange", Rows.laid_strconv_ErrRange) :: ("strconv.ErrSyntax", Rows.laid_strconv_ErrSyntax) :: []) W := h2
 have h4 := h3.tail
 obtain ⟨a0, s0, hv0, -, -, -⟩ := laid_sentinel h4 g_range gt_range Tryz.underlying115 row_errStr Tryz.underlying287 Tryz.underlying289 rfl rfl Tryz.underlying9 cells_errStr cells_string
 obtain ⟨a1, s1, hv1, -, -, -⟩ := laid_sentinel h4.tail g_syntax gt_syntax Tryz.underlying115 row_errStr Tryz.underlying287 Tryz.underlying289 rfl rfl Tryz.underlying9 cells_errStr cells_string
 rw [pow10_data] at h3
 exact ⟨Lib.tabIs_of_head g_pow10 gt_pow10 Tryz.underlying291 Tryz.underlying148 cells_u64 cells_arr20 h3, ⟨_, _, hv1⟩, ⟨_, _, hv0⟩⟩
theorem door_met (os : Os) (args : Array Value) : laidMetH Tryz.prog Rows.maniPutsRow.laid ((World.doorLaid Tryz.prog 4000 os).forCall (fun _ _ => 0) ⟨#[], args, []⟩).memory :=
 laidMetH_of_parts3 (fuel := 8) (laidMet_of_run' 8 (by kernel_rfl) (by kernel_rfl)) (by kernel_rfl) (by kernel_rfl)
end Go.Proofs.YtcimkoehcdfjdaaGreatDoor
