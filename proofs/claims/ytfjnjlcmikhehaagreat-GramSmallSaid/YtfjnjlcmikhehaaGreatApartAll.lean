/-
  The walks of mudlarkkit's flat.. (but flatBytes) on lists of none. Printed by gen/flatnil.py.
  The walk of mudlarkkit's flatBytes: rows of bytes that lie apart are found to lie apart; only they turn.
  The walks of mudlarkkit's ApartBytes and what it calls: rows of bytes that lie apart are found to lie apart. Printed by gen/apart.py.
-/
import Derived.Outline
import Derived.WalkKit
import Derived.LoopTactic
import Derived.Test.YtfjnjlcmikhehaaGreatProg
import Derived.Test.YtfjnjlcmikhehaaGreatBaseC
import Derived.StillTailTactics
import Derived.BigQuiet
import Derived.Deep.QuietTactic
import Derived.Test.YtfjnjlcmikhehaaGreatBaseE
import Derived.Test.YtfjnjlcmikhehaaGreatBaseA
import Derived.Deep.LoopGhost
import Derived.WalkMore
import Derived.IntWalk
import Derived.Laws.Shifts
import Derived.Test.YtfjnjlcmikhehaaGreatRange
import Derived.Test.YtfjnjlcmikhehaaGreatMarks
import Derived.Test.YtfjnjlcmikhehaaGreatBaseD
import Derived.Shelf.Abstract
import Derived.Shelf.RegionOpen
import Derived.OwnWalkIn
import Derived.TacticsInMore
import Derived.LoopNIn
import Derived.LoopIn
import Derived.Great.Walk
namespace Go.Proofs.YtfjnjlcmikhehaaGreat
open Go.RowKit

set_option maxRecDepth 100000 in
theorem flatLimbs_nil (w : World) : Calls Tryz.prog 34 #[.slice none 0 0] w fun e w' => e = .returned (.bool true) ∧ Grow w w' := by
  have hmk : ∀ W, (Instr.makeSlice 57 (.int .i64 0) (.int .i64 0)).run Tryz.prog W = .ok (.slice (some ⟨W.heap.size, 0, none⟩) 0 0) (W.alloc (.cells #[] 112)) := fun _ => by kernel_rfl
  go_enter Tryz.func34, Tryz.ntmps34
  go_wp2
  go_loopw [3] (fun v wr => v = .int .i64 0 ∧ w = wr) (fun _ _ => 0)
  case atStart => exact ⟨rfl, rfl⟩
  case round =>
    obtain ⟨rfl, rfl⟩ := hrel
    go_wp2
    go_loopw [6] (fun v wr => v = .int .i64 0 ∧ (w.alloc (.cells #[] 112)) = wr) (fun _ _ => 0)
    case atStart => exact ⟨rfl, rfl⟩
    case round =>
      obtain ⟨rfl, rfl⟩ := hrel
      go_wp2
      go_loopw [9] (fun v wr => v = .int .i64 0 ∧ (w.alloc (.cells #[] 112)) = wr) (fun _ _ => 0)
      case atStart => exact ⟨rfl, rfl⟩
      case round =>
        obtain ⟨rfl, rfl⟩ := hrel
        go_wp2
        go_loopw [11] (fun v wr => v = .int .i64 0 ∧ (w.alloc (.cells #[] 112)) = wr) (fun _ _ => 0)
        case atStart => exact ⟨rfl, rfl⟩
        case round =>
          obtain ⟨rfl, rfl⟩ := hrel
          go_wp2
          go_loopw [14] (fun v wr => v = .int .i64 0 ∧ (w.alloc (.cells #[] 112)) = wr) (fun _ _ => 0)
          case atStart => exact ⟨rfl, rfl⟩
          case round =>
            obtain ⟨rfl, rfl⟩ := hrel
            go_wp2
            go_ret
            exact ⟨rfl, Grow.alloc _ _⟩
set_option maxRecDepth 100000 in
theorem flatWords_nil (w : World) : Calls Tryz.prog 35 #[.slice none 0 0] w fun e w' => e = .returned (.bool true) ∧ Grow w w' := by
  have hmk : ∀ W, (Instr.makeSlice 58 (.int .i64 0) (.int .i64 0)).run Tryz.prog W = .ok (.slice (some ⟨W.heap.size, 0, none⟩) 0 0) (W.alloc (.cells #[] 114)) := fun _ => by kernel_rfl
  go_enter Tryz.func35, Tryz.ntmps35
  go_wp2
  go_loopw [3] (fun v wr => v = .int .i64 0 ∧ w = wr) (fun _ _ => 0)
  case atStart => exact ⟨rfl, rfl⟩
  case round =>
    obtain ⟨rfl, rfl⟩ := hrel
    go_wp2
    go_loopw [6] (fun v wr => v = .int .i64 0 ∧ (w.alloc (.cells #[] 114)) = wr) (fun _ _ => 0)
    case atStart => exact ⟨rfl, rfl⟩
    case round =>
      obtain ⟨rfl, rfl⟩ := hrel
      go_wp2
      go_loopw [9] (fun v wr => v = .int .i64 0 ∧ (w.alloc (.cells #[] 114)) = wr) (fun _ _ => 0)
      case atStart => exact ⟨rfl, rfl⟩
      case round =>
        obtain ⟨rfl, rfl⟩ := hrel
        go_wp2
        go_loopw [11] (fun v wr => v = .int .i64 0 ∧ (w.alloc (.cells #[] 114)) = wr) (fun _ _ => 0)
        case atStart => exact ⟨rfl, rfl⟩
        case round =>
          obtain ⟨rfl, rfl⟩ := hrel
          go_wp2
          go_loopw [14] (fun v wr => v = .int .i64 0 ∧ (w.alloc (.cells #[] 114)) = wr) (fun _ _ => 0)
          case atStart => exact ⟨rfl, rfl⟩
          case round =>
            obtain ⟨rfl, rfl⟩ := hrel
            go_wp2
            go_ret
            exact ⟨rfl, Grow.alloc _ _⟩
set_option maxRecDepth 100000 in
theorem flatInts_nil (w : World) : Calls Tryz.prog 36 #[.slice none 0 0] w fun e w' => e = .returned (.bool true) ∧ Grow w w' := by
  have hmk : ∀ W, (Instr.makeSlice 59 (.int .i64 0) (.int .i64 0)).run Tryz.prog W = .ok (.slice (some ⟨W.heap.size, 0, none⟩) 0 0) (W.alloc (.cells #[] 115)) := fun _ => by kernel_rfl
  go_enter Tryz.func36, Tryz.ntmps36
  go_wp2
  go_loopw [3] (fun v wr => v = .int .i64 0 ∧ w = wr) (fun _ _ => 0)
  case atStart => exact ⟨rfl, rfl⟩
  case round =>
    obtain ⟨rfl, rfl⟩ := hrel
    go_wp2
    go_loopw [6] (fun v wr => v = .int .i64 0 ∧ (w.alloc (.cells #[] 115)) = wr) (fun _ _ => 0)
    case atStart => exact ⟨rfl, rfl⟩
    case round =>
      obtain ⟨rfl, rfl⟩ := hrel
      go_wp2
      go_loopw [9] (fun v wr => v = .int .i64 0 ∧ (w.alloc (.cells #[] 115)) = wr) (fun _ _ => 0)
      case atStart => exact ⟨rfl, rfl⟩
      case round =>
        obtain ⟨rfl, rfl⟩ := hrel
        go_wp2
        go_loopw [11] (fun v wr => v = .int .i64 0 ∧ (w.alloc (.cells #[] 115)) = wr) (fun _ _ => 0)
        case atStart => exact ⟨rfl, rfl⟩
        case round =>
          obtain ⟨rfl, rfl⟩ := hrel
          go_wp2
          go_loopw [14] (fun v wr => v = .int .i64 0 ∧ (w.alloc (.cells #[] 115)) = wr) (fun _ _ => 0)
          case atStart => exact ⟨rfl, rfl⟩
          case round =>
            obtain ⟨rfl, rfl⟩ := hrel
            go_wp2
            go_ret
            exact ⟨rfl, Grow.alloc _ _⟩
set_option maxRecDepth 100000 in
theorem flatLongs_nil (w : World) : Calls Tryz.prog 37 #[.slice none 0 0] w fun e w' => e = .returned (.bool true) ∧ Grow w w' := by
  have hmk : ∀ W, (Instr.makeSlice 60 (.int .i64 0) (.int .i64 0)).run Tryz.prog W = .ok (.slice (some ⟨W.heap.size, 0, none⟩) 0 0) (W.alloc (.cells #[] 116)) := fun _ => by kernel_rfl
  go_enter Tryz.func37, Tryz.ntmps37
  go_wp2
  go_loopw [3] (fun v wr => v = .int .i64 0 ∧ w = wr) (fun _ _ => 0)
  case atStart => exact ⟨rfl, rfl⟩
  case round =>
    obtain ⟨rfl, rfl⟩ := hrel
    go_wp2
    go_loopw [6] (fun v wr => v = .int .i64 0 ∧ (w.alloc (.cells #[] 116)) = wr) (fun _ _ => 0)
    case atStart => exact ⟨rfl, rfl⟩
    case round =>
      obtain ⟨rfl, rfl⟩ := hrel
      go_wp2
      go_loopw [9] (fun v wr => v = .int .i64 0 ∧ (w.alloc (.cells #[] 116)) = wr) (fun _ _ => 0)
      case atStart => exact ⟨rfl, rfl⟩
      case round =>
        obtain ⟨rfl, rfl⟩ := hrel
        go_wp2
        go_loopw [11] (fun v wr => v = .int .i64 0 ∧ (w.alloc (.cells #[] 116)) = wr) (fun _ _ => 0)
        case atStart => exact ⟨rfl, rfl⟩
        case round =>
          obtain ⟨rfl, rfl⟩ := hrel
          go_wp2
          go_loopw [14] (fun v wr => v = .int .i64 0 ∧ (w.alloc (.cells #[] 116)) = wr) (fun _ _ => 0)
          case atStart => exact ⟨rfl, rfl⟩
          case round =>
            obtain ⟨rfl, rfl⟩ := hrel
            go_wp2
            go_ret
            exact ⟨rfl, Grow.alloc _ _⟩
set_option maxRecDepth 100000 in
theorem flatTexts_nil (w : World) : Calls Tryz.prog 38 #[.slice none 0 0] w fun e w' => e = .returned (.bool true) ∧ Grow w w' := by
  have hmk : ∀ W, (Instr.makeSlice 39 (.int .i64 0) (.int .i64 0)).run Tryz.prog W = .ok (.slice (some ⟨W.heap.size, 0, none⟩) 0 0) (W.alloc (.cells #[] 30)) := fun _ => by kernel_rfl
  go_enter Tryz.func38, Tryz.ntmps38
  go_wp2
  go_loopw [3] (fun v wr => v = .int .i64 0 ∧ w = wr) (fun _ _ => 0)
  case atStart => exact ⟨rfl, rfl⟩
  case round =>
    obtain ⟨rfl, rfl⟩ := hrel
    go_wp2
    go_loopw [6] (fun v wr => v = .int .i64 0 ∧ (w.alloc (.cells #[] 30)) = wr) (fun _ _ => 0)
    case atStart => exact ⟨rfl, rfl⟩
    case round =>
      obtain ⟨rfl, rfl⟩ := hrel
      go_wp2
      go_loopw [9] (fun v wr => v = .int .i64 0 ∧ (w.alloc (.cells #[] 30)) = wr) (fun _ _ => 0)
      case atStart => exact ⟨rfl, rfl⟩
      case round =>
        obtain ⟨rfl, rfl⟩ := hrel
        go_wp2
        go_loopw [11] (fun v wr => v = .int .i64 0 ∧ (w.alloc (.cells #[] 30)) = wr) (fun _ _ => 0)
        case atStart => exact ⟨rfl, rfl⟩
        case round =>
          obtain ⟨rfl, rfl⟩ := hrel
          go_wp2
          go_loopw [14] (fun v wr => v = .int .i64 0 ∧ (w.alloc (.cells #[] 30)) = wr) (fun _ _ => 0)
          case atStart => exact ⟨rfl, rfl⟩
          case round =>
            obtain ⟨rfl, rfl⟩ := hrel
            go_wp2
            go_ret
            exact ⟨rfl, Grow.alloc _ _⟩
set_option maxRecDepth 100000 in
theorem flatTruths_nil (w : World) : Calls Tryz.prog 40 #[.slice none 0 0] w fun e w' => e = .returned (.bool true) ∧ Grow w w' := by
  have hmk : ∀ W, (Instr.makeSlice 62 (.int .i64 0) (.int .i64 0)).run Tryz.prog W = .ok (.slice (some ⟨W.heap.size, 0, none⟩) 0 0) (W.alloc (.cells #[] 118)) := fun _ => by kernel_rfl
  go_enter Tryz.func40, Tryz.ntmps40
  go_wp2
  go_loopw [3] (fun v wr => v = .int .i64 0 ∧ w = wr) (fun _ _ => 0)
  case atStart => exact ⟨rfl, rfl⟩
  case round =>
    obtain ⟨rfl, rfl⟩ := hrel
    go_wp2
    go_loopw [6] (fun v wr => v = .int .i64 0 ∧ (w.alloc (.cells #[] 118)) = wr) (fun _ _ => 0)
    case atStart => exact ⟨rfl, rfl⟩
    case round =>
      obtain ⟨rfl, rfl⟩ := hrel
      go_wp2
      go_loopw [9] (fun v wr => v = .int .i64 0 ∧ (w.alloc (.cells #[] 118)) = wr) (fun _ _ => 0)
      case atStart => exact ⟨rfl, rfl⟩
      case round =>
        obtain ⟨rfl, rfl⟩ := hrel
        go_wp2
        go_loopw [11] (fun v wr => v = .int .i64 0 ∧ (w.alloc (.cells #[] 118)) = wr) (fun _ _ => 0)
        case atStart => exact ⟨rfl, rfl⟩
        case round =>
          obtain ⟨rfl, rfl⟩ := hrel
          go_wp2
          go_loopw [14] (fun v wr => v = .int .i64 0 ∧ (w.alloc (.cells #[] 118)) = wr) (fun _ _ => 0)
          case atStart => exact ⟨rfl, rfl⟩
          case round =>
            obtain ⟨rfl, rfl⟩ := hrel
            go_wp2
            go_ret
            exact ⟨rfl, Grow.alloc _ _⟩
set_option maxRecDepth 100000 in
theorem flatNodes_nil (w : World) : Calls Tryz.prog 41 #[.slice none 0 0] w fun e w' => e = .returned (.bool true) ∧ Grow w w' := by
  have hmk : ∀ W, (Instr.makeSlice 63 (.int .i64 0) (.int .i64 0)).run Tryz.prog W = .ok (.slice (some ⟨W.heap.size, 0, none⟩) 0 0) (W.alloc (.cells #[] 119)) := fun _ => by kernel_rfl
  go_enter Tryz.func41, Tryz.ntmps41
  go_wp2
  go_loopw [3] (fun v wr => v = .int .i64 0 ∧ w = wr) (fun _ _ => 0)
  case atStart => exact ⟨rfl, rfl⟩
  case round =>
    obtain ⟨rfl, rfl⟩ := hrel
    go_wp2
    go_loopw [6] (fun v wr => v = .int .i64 0 ∧ (w.alloc (.cells #[] 119)) = wr) (fun _ _ => 0)
    case atStart => exact ⟨rfl, rfl⟩
    case round =>
      obtain ⟨rfl, rfl⟩ := hrel
      go_wp2
      go_loopw [9] (fun v wr => v = .int .i64 0 ∧ (w.alloc (.cells #[] 119)) = wr) (fun _ _ => 0)
      case atStart => exact ⟨rfl, rfl⟩
      case round =>
        obtain ⟨rfl, rfl⟩ := hrel
        go_wp2
        go_loopw [11] (fun v wr => v = .int .i64 0 ∧ (w.alloc (.cells #[] 119)) = wr) (fun _ _ => 0)
        case atStart => exact ⟨rfl, rfl⟩
        case round =>
          obtain ⟨rfl, rfl⟩ := hrel
          go_wp2
          go_loopw [14] (fun v wr => v = .int .i64 0 ∧ (w.alloc (.cells #[] 119)) = wr) (fun _ _ => 0)
          case atStart => exact ⟨rfl, rfl⟩
          case round =>
            obtain ⟨rfl, rfl⟩ := hrel
            go_wp2
            go_ret
            exact ⟨rfl, Grow.alloc _ _⟩
set_option maxRecDepth 100000 in
theorem flatInsts_nil (w : World) : Calls Tryz.prog 42 #[.slice none 0 0] w fun e w' => e = .returned (.bool true) ∧ Grow w w' := by
  have hmk : ∀ W, (Instr.makeSlice 64 (.int .i64 0) (.int .i64 0)).run Tryz.prog W = .ok (.slice (some ⟨W.heap.size, 0, none⟩) 0 0) (W.alloc (.cells #[] 127)) := fun _ => by kernel_rfl
  go_enter Tryz.func42, Tryz.ntmps42
  go_wp2
  go_loopw [3] (fun v wr => v = .int .i64 0 ∧ w = wr) (fun _ _ => 0)
  case atStart => exact ⟨rfl, rfl⟩
  case round =>
    obtain ⟨rfl, rfl⟩ := hrel
    go_wp2
    go_loopw [6] (fun v wr => v = .int .i64 0 ∧ (w.alloc (.cells #[] 127)) = wr) (fun _ _ => 0)
    case atStart => exact ⟨rfl, rfl⟩
    case round =>
      obtain ⟨rfl, rfl⟩ := hrel
      go_wp2
      go_loopw [9] (fun v wr => v = .int .i64 0 ∧ (w.alloc (.cells #[] 127)) = wr) (fun _ _ => 0)
      case atStart => exact ⟨rfl, rfl⟩
      case round =>
        obtain ⟨rfl, rfl⟩ := hrel
        go_wp2
        go_loopw [11] (fun v wr => v = .int .i64 0 ∧ (w.alloc (.cells #[] 127)) = wr) (fun _ _ => 0)
        case atStart => exact ⟨rfl, rfl⟩
        case round =>
          obtain ⟨rfl, rfl⟩ := hrel
          go_wp2
          go_loopw [14] (fun v wr => v = .int .i64 0 ∧ (w.alloc (.cells #[] 127)) = wr) (fun _ _ => 0)
          case atStart => exact ⟨rfl, rfl⟩
          case round =>
            obtain ⟨rfl, rfl⟩ := hrel
            go_wp2
            go_ret
            exact ⟨rfl, Grow.alloc _ _⟩
set_option maxRecDepth 100000 in
theorem flatQueries_nil (w : World) : Calls Tryz.prog 43 #[.slice none 0 0] w fun e w' => e = .returned (.bool true) ∧ Grow w w' := by
  have hmk : ∀ W, (Instr.makeSlice 65 (.int .i64 0) (.int .i64 0)).run Tryz.prog W = .ok (.slice (some ⟨W.heap.size, 0, none⟩) 0 0) (W.alloc (.cells #[] 132)) := fun _ => by kernel_rfl
  go_enter Tryz.func43, Tryz.ntmps43
  go_wp2
  go_loopw [3] (fun v wr => v = .int .i64 0 ∧ w = wr) (fun _ _ => 0)
  case atStart => exact ⟨rfl, rfl⟩
  case round =>
    obtain ⟨rfl, rfl⟩ := hrel
    go_wp2
    go_loopw [6] (fun v wr => v = .int .i64 0 ∧ (w.alloc (.cells #[] 132)) = wr) (fun _ _ => 0)
    case atStart => exact ⟨rfl, rfl⟩
    case round =>
      obtain ⟨rfl, rfl⟩ := hrel
      go_wp2
      go_loopw [9] (fun v wr => v = .int .i64 0 ∧ (w.alloc (.cells #[] 132)) = wr) (fun _ _ => 0)
      case atStart => exact ⟨rfl, rfl⟩
      case round =>
        obtain ⟨rfl, rfl⟩ := hrel
        go_wp2
        go_loopw [11] (fun v wr => v = .int .i64 0 ∧ (w.alloc (.cells #[] 132)) = wr) (fun _ _ => 0)
        case atStart => exact ⟨rfl, rfl⟩
        case round =>
          obtain ⟨rfl, rfl⟩ := hrel
          go_wp2
          go_loopw [14] (fun v wr => v = .int .i64 0 ∧ (w.alloc (.cells #[] 132)) = wr) (fun _ _ => 0)
          case atStart => exact ⟨rfl, rfl⟩
          case round =>
            obtain ⟨rfl, rfl⟩ := hrel
            go_wp2
            go_ret
            exact ⟨rfl, Grow.alloc _ _⟩
set_option maxRecDepth 100000 in
theorem flatFiles_nil (w : World) : Calls Tryz.prog 44 #[.slice none 0 0] w fun e w' => e = .returned (.bool true) ∧ Grow w w' := by
  have hmk : ∀ W, (Instr.makeSlice 66 (.int .i64 0) (.int .i64 0)).run Tryz.prog W = .ok (.slice (some ⟨W.heap.size, 0, none⟩) 0 0) (W.alloc (.cells #[] 138)) := fun _ => by kernel_rfl
  go_enter Tryz.func44, Tryz.ntmps44
  go_wp2
  go_loopw [3] (fun v wr => v = .int .i64 0 ∧ w = wr) (fun _ _ => 0)
  case atStart => exact ⟨rfl, rfl⟩
  case round =>
    obtain ⟨rfl, rfl⟩ := hrel
    go_wp2
    go_loopw [6] (fun v wr => v = .int .i64 0 ∧ (w.alloc (.cells #[] 138)) = wr) (fun _ _ => 0)
    case atStart => exact ⟨rfl, rfl⟩
    case round =>
      obtain ⟨rfl, rfl⟩ := hrel
      go_wp2
      go_loopw [9] (fun v wr => v = .int .i64 0 ∧ (w.alloc (.cells #[] 138)) = wr) (fun _ _ => 0)
      case atStart => exact ⟨rfl, rfl⟩
      case round =>
        obtain ⟨rfl, rfl⟩ := hrel
        go_wp2
        go_loopw [11] (fun v wr => v = .int .i64 0 ∧ (w.alloc (.cells #[] 138)) = wr) (fun _ _ => 0)
        case atStart => exact ⟨rfl, rfl⟩
        case round =>
          obtain ⟨rfl, rfl⟩ := hrel
          go_wp2
          go_loopw [14] (fun v wr => v = .int .i64 0 ∧ (w.alloc (.cells #[] 138)) = wr) (fun _ _ => 0)
          case atStart => exact ⟨rfl, rfl⟩
          case round =>
            obtain ⟨rfl, rfl⟩ := hrel
            go_wp2
            go_ret
            exact ⟨rfl, Grow.alloc _ _⟩
set_option maxRecDepth 100000 in
theorem flatDocs_nil (w : World) : Calls Tryz.prog 45 #[.slice none 0 0] w fun e w' => e = .returned (.bool true) ∧ Grow w w' := by
  have hmk : ∀ W, (Instr.makeSlice 67 (.int .i64 0) (.int .i64 0)).run Tryz.prog W = .ok (.slice (some ⟨W.heap.size, 0, none⟩) 0 0) (W.alloc (.cells #[] 143)) := fun _ => by kernel_rfl
  go_enter Tryz.func45, Tryz.ntmps45
  go_wp2
  go_loopw [3] (fun v wr => v = .int .i64 0 ∧ w = wr) (fun _ _ => 0)
  case atStart => exact ⟨rfl, rfl⟩
  case round =>
    obtain ⟨rfl, rfl⟩ := hrel
    go_wp2
    go_loopw [6] (fun v wr => v = .int .i64 0 ∧ (w.alloc (.cells #[] 143)) = wr) (fun _ _ => 0)
    case atStart => exact ⟨rfl, rfl⟩
    case round =>
      obtain ⟨rfl, rfl⟩ := hrel
      go_wp2
      go_loopw [9] (fun v wr => v = .int .i64 0 ∧ (w.alloc (.cells #[] 143)) = wr) (fun _ _ => 0)
      case atStart => exact ⟨rfl, rfl⟩
      case round =>
        obtain ⟨rfl, rfl⟩ := hrel
        go_wp2
        go_loopw [11] (fun v wr => v = .int .i64 0 ∧ (w.alloc (.cells #[] 143)) = wr) (fun _ _ => 0)
        case atStart => exact ⟨rfl, rfl⟩
        case round =>
          obtain ⟨rfl, rfl⟩ := hrel
          go_wp2
          go_loopw [14] (fun v wr => v = .int .i64 0 ∧ (w.alloc (.cells #[] 143)) = wr) (fun _ _ => 0)
          case atStart => exact ⟨rfl, rfl⟩
          case round =>
            obtain ⟨rfl, rfl⟩ := hrel
            go_wp2
            go_ret
            exact ⟨rfl, Grow.alloc _ _⟩
set_option maxRecDepth 100000 in
theorem flatPlaces_nil (w : World) : Calls Tryz.prog 46 #[.slice none 0 0] w fun e w' => e = .returned (.bool true) ∧ Grow w w' := by
  have hmk : ∀ W, (Instr.makeSlice 68 (.int .i64 0) (.int .i64 0)).run Tryz.prog W = .ok (.slice (some ⟨W.heap.size, 0, none⟩) 0 0) (W.alloc (.cells #[] 40)) := fun _ => by kernel_rfl
  go_enter Tryz.func46, Tryz.ntmps46
  go_wp2
  go_loopw [3] (fun v wr => v = .int .i64 0 ∧ w = wr) (fun _ _ => 0)
  case atStart => exact ⟨rfl, rfl⟩
  case round =>
    obtain ⟨rfl, rfl⟩ := hrel
    go_wp2
    go_loopw [6] (fun v wr => v = .int .i64 0 ∧ (w.alloc (.cells #[] 40)) = wr) (fun _ _ => 0)
    case atStart => exact ⟨rfl, rfl⟩
    case round =>
      obtain ⟨rfl, rfl⟩ := hrel
      go_wp2
      go_loopw [9] (fun v wr => v = .int .i64 0 ∧ (w.alloc (.cells #[] 40)) = wr) (fun _ _ => 0)
      case atStart => exact ⟨rfl, rfl⟩
      case round =>
        obtain ⟨rfl, rfl⟩ := hrel
        go_wp2
        go_loopw [11] (fun v wr => v = .int .i64 0 ∧ (w.alloc (.cells #[] 40)) = wr) (fun _ _ => 0)
        case atStart => exact ⟨rfl, rfl⟩
        case round =>
          obtain ⟨rfl, rfl⟩ := hrel
          go_wp2
          go_loopw [14] (fun v wr => v = .int .i64 0 ∧ (w.alloc (.cells #[] 40)) = wr) (fun _ _ => 0)
          case atStart => exact ⟨rfl, rfl⟩
          case round =>
            obtain ⟨rfl, rfl⟩ := hrel
            go_wp2
            go_ret
            exact ⟨rfl, Grow.alloc _ _⟩
set_option maxRecDepth 100000 in
theorem flatPostings_nil (w : World) : Calls Tryz.prog 47 #[.slice none 0 0] w fun e w' => e = .returned (.bool true) ∧ Grow w w' := by
  have hmk : ∀ W, (Instr.makeSlice 37 (.int .i64 0) (.int .i64 0)).run Tryz.prog W = .ok (.slice (some ⟨W.heap.size, 0, none⟩) 0 0) (W.alloc (.cells #[] 28)) := fun _ => by kernel_rfl
  go_enter Tryz.func47, Tryz.ntmps47
  go_wp2
  go_loopw [3] (fun v wr => v = .int .i64 0 ∧ w = wr) (fun _ _ => 0)
  case atStart => exact ⟨rfl, rfl⟩
  case round =>
    obtain ⟨rfl, rfl⟩ := hrel
    go_wp2
    go_loopw [6] (fun v wr => v = .int .i64 0 ∧ (w.alloc (.cells #[] 28)) = wr) (fun _ _ => 0)
    case atStart => exact ⟨rfl, rfl⟩
    case round =>
      obtain ⟨rfl, rfl⟩ := hrel
      go_wp2
      go_loopw [9] (fun v wr => v = .int .i64 0 ∧ (w.alloc (.cells #[] 28)) = wr) (fun _ _ => 0)
      case atStart => exact ⟨rfl, rfl⟩
      case round =>
        obtain ⟨rfl, rfl⟩ := hrel
        go_wp2
        go_loopw [11] (fun v wr => v = .int .i64 0 ∧ (w.alloc (.cells #[] 28)) = wr) (fun _ _ => 0)
        case atStart => exact ⟨rfl, rfl⟩
        case round =>
          obtain ⟨rfl, rfl⟩ := hrel
          go_wp2
          go_loopw [14] (fun v wr => v = .int .i64 0 ∧ (w.alloc (.cells #[] 28)) = wr) (fun _ _ => 0)
          case atStart => exact ⟨rfl, rfl⟩
          case round =>
            obtain ⟨rfl, rfl⟩ := hrel
            go_wp2
            go_ret
            exact ⟨rfl, Grow.alloc _ _⟩
set_option maxRecDepth 100000 in
theorem flatShardRefs_nil (w : World) : Calls Tryz.prog 48 #[.slice none 0 0] w fun e w' => e = .returned (.bool true) ∧ Grow w w' := by
  have hmk : ∀ W, (Instr.makeSlice 69 (.int .i64 0) (.int .i64 0)).run Tryz.prog W = .ok (.slice (some ⟨W.heap.size, 0, none⟩) 0 0) (W.alloc (.cells #[] 149)) := fun _ => by kernel_rfl
  go_enter Tryz.func48, Tryz.ntmps48
  go_wp2
  go_loopw [3] (fun v wr => v = .int .i64 0 ∧ w = wr) (fun _ _ => 0)
  case atStart => exact ⟨rfl, rfl⟩
  case round =>
    obtain ⟨rfl, rfl⟩ := hrel
    go_wp2
    go_loopw [6] (fun v wr => v = .int .i64 0 ∧ (w.alloc (.cells #[] 149)) = wr) (fun _ _ => 0)
    case atStart => exact ⟨rfl, rfl⟩
    case round =>
      obtain ⟨rfl, rfl⟩ := hrel
      go_wp2
      go_loopw [9] (fun v wr => v = .int .i64 0 ∧ (w.alloc (.cells #[] 149)) = wr) (fun _ _ => 0)
      case atStart => exact ⟨rfl, rfl⟩
      case round =>
        obtain ⟨rfl, rfl⟩ := hrel
        go_wp2
        go_loopw [11] (fun v wr => v = .int .i64 0 ∧ (w.alloc (.cells #[] 149)) = wr) (fun _ _ => 0)
        case atStart => exact ⟨rfl, rfl⟩
        case round =>
          obtain ⟨rfl, rfl⟩ := hrel
          go_wp2
          go_loopw [14] (fun v wr => v = .int .i64 0 ∧ (w.alloc (.cells #[] 149)) = wr) (fun _ _ => 0)
          case atStart => exact ⟨rfl, rfl⟩
          case round =>
            obtain ⟨rfl, rfl⟩ := hrel
            go_wp2
            go_ret
            exact ⟨rfl, Grow.alloc _ _⟩
set_option maxRecDepth 100000 in
theorem flatManifests_nil (w : World) : Calls Tryz.prog 49 #[.slice none 0 0] w fun e w' => e = .returned (.bool true) ∧ Grow w w' := by
  have hmk : ∀ W, (Instr.makeSlice 70 (.int .i64 0) (.int .i64 0)).run Tryz.prog W = .ok (.slice (some ⟨W.heap.size, 0, none⟩) 0 0) (W.alloc (.cells #[] 154)) := fun _ => by kernel_rfl
  go_enter Tryz.func49, Tryz.ntmps49
  go_wp2
  go_loopw [3] (fun v wr => v = .int .i64 0 ∧ w = wr) (fun _ _ => 0)
  case atStart => exact ⟨rfl, rfl⟩
  case round =>
    obtain ⟨rfl, rfl⟩ := hrel
    go_wp2
    go_loopw [6] (fun v wr => v = .int .i64 0 ∧ (w.alloc (.cells #[] 154)) = wr) (fun _ _ => 0)
    case atStart => exact ⟨rfl, rfl⟩
    case round =>
      obtain ⟨rfl, rfl⟩ := hrel
      go_wp2
      go_loopw [9] (fun v wr => v = .int .i64 0 ∧ (w.alloc (.cells #[] 154)) = wr) (fun _ _ => 0)
      case atStart => exact ⟨rfl, rfl⟩
      case round =>
        obtain ⟨rfl, rfl⟩ := hrel
        go_wp2
        go_loopw [11] (fun v wr => v = .int .i64 0 ∧ (w.alloc (.cells #[] 154)) = wr) (fun _ _ => 0)
        case atStart => exact ⟨rfl, rfl⟩
        case round =>
          obtain ⟨rfl, rfl⟩ := hrel
          go_wp2
          go_loopw [14] (fun v wr => v = .int .i64 0 ∧ (w.alloc (.cells #[] 154)) = wr) (fun _ _ => 0)
          case atStart => exact ⟨rfl, rfl⟩
          case round =>
            obtain ⟨rfl, rfl⟩ := hrel
            go_wp2
            go_ret
            exact ⟨rfl, Grow.alloc _ _⟩
set_option maxRecDepth 100000 in
theorem flatAsks_nil (w : World) : Calls Tryz.prog 50 #[.slice none 0 0] w fun e w' => e = .returned (.bool true) ∧ Grow w w' := by
  have hmk : ∀ W, (Instr.makeSlice 71 (.int .i64 0) (.int .i64 0)).run Tryz.prog W = .ok (.slice (some ⟨W.heap.size, 0, none⟩) 0 0) (W.alloc (.cells #[] 159)) := fun _ => by kernel_rfl
  go_enter Tryz.func50, Tryz.ntmps50
  go_wp2
  go_loopw [3] (fun v wr => v = .int .i64 0 ∧ w = wr) (fun _ _ => 0)
  case atStart => exact ⟨rfl, rfl⟩
  case round =>
    obtain ⟨rfl, rfl⟩ := hrel
    go_wp2
    go_loopw [6] (fun v wr => v = .int .i64 0 ∧ (w.alloc (.cells #[] 159)) = wr) (fun _ _ => 0)
    case atStart => exact ⟨rfl, rfl⟩
    case round =>
      obtain ⟨rfl, rfl⟩ := hrel
      go_wp2
      go_loopw [9] (fun v wr => v = .int .i64 0 ∧ (w.alloc (.cells #[] 159)) = wr) (fun _ _ => 0)
      case atStart => exact ⟨rfl, rfl⟩
      case round =>
        obtain ⟨rfl, rfl⟩ := hrel
        go_wp2
        go_loopw [11] (fun v wr => v = .int .i64 0 ∧ (w.alloc (.cells #[] 159)) = wr) (fun _ _ => 0)
        case atStart => exact ⟨rfl, rfl⟩
        case round =>
          obtain ⟨rfl, rfl⟩ := hrel
          go_wp2
          go_loopw [14] (fun v wr => v = .int .i64 0 ∧ (w.alloc (.cells #[] 159)) = wr) (fun _ _ => 0)
          case atStart => exact ⟨rfl, rfl⟩
          case round =>
            obtain ⟨rfl, rfl⟩ := hrel
            go_wp2
            go_ret
            exact ⟨rfl, Grow.alloc _ _⟩
set_option maxRecDepth 100000 in
theorem flatHits_nil (w : World) : Calls Tryz.prog 51 #[.slice none 0 0] w fun e w' => e = .returned (.bool true) ∧ Grow w w' := by
  have hmk : ∀ W, (Instr.makeSlice 72 (.int .i64 0) (.int .i64 0)).run Tryz.prog W = .ok (.slice (some ⟨W.heap.size, 0, none⟩) 0 0) (W.alloc (.cells #[] 166)) := fun _ => by kernel_rfl
  go_enter Tryz.func51, Tryz.ntmps51
  go_wp2
  go_loopw [3] (fun v wr => v = .int .i64 0 ∧ w = wr) (fun _ _ => 0)
  case atStart => exact ⟨rfl, rfl⟩
  case round =>
    obtain ⟨rfl, rfl⟩ := hrel
    go_wp2
    go_loopw [6] (fun v wr => v = .int .i64 0 ∧ (w.alloc (.cells #[] 166)) = wr) (fun _ _ => 0)
    case atStart => exact ⟨rfl, rfl⟩
    case round =>
      obtain ⟨rfl, rfl⟩ := hrel
      go_wp2
      go_loopw [9] (fun v wr => v = .int .i64 0 ∧ (w.alloc (.cells #[] 166)) = wr) (fun _ _ => 0)
      case atStart => exact ⟨rfl, rfl⟩
      case round =>
        obtain ⟨rfl, rfl⟩ := hrel
        go_wp2
        go_loopw [11] (fun v wr => v = .int .i64 0 ∧ (w.alloc (.cells #[] 166)) = wr) (fun _ _ => 0)
        case atStart => exact ⟨rfl, rfl⟩
        case round =>
          obtain ⟨rfl, rfl⟩ := hrel
          go_wp2
          go_loopw [14] (fun v wr => v = .int .i64 0 ∧ (w.alloc (.cells #[] 166)) = wr) (fun _ _ => 0)
          case atStart => exact ⟨rfl, rfl⟩
          case round =>
            obtain ⟨rfl, rfl⟩ := hrel
            go_wp2
            go_ret
            exact ⟨rfl, Grow.alloc _ _⟩
set_option maxRecDepth 100000 in
theorem flatAnswers_nil (w : World) : Calls Tryz.prog 52 #[.slice none 0 0] w fun e w' => e = .returned (.bool true) ∧ Grow w w' := by
  have hmk : ∀ W, (Instr.makeSlice 73 (.int .i64 0) (.int .i64 0)).run Tryz.prog W = .ok (.slice (some ⟨W.heap.size, 0, none⟩) 0 0) (W.alloc (.cells #[] 170)) := fun _ => by kernel_rfl
  go_enter Tryz.func52, Tryz.ntmps52
  go_wp2
  go_loopw [3] (fun v wr => v = .int .i64 0 ∧ w = wr) (fun _ _ => 0)
  case atStart => exact ⟨rfl, rfl⟩
  case round =>
    obtain ⟨rfl, rfl⟩ := hrel
    go_wp2
    go_loopw [6] (fun v wr => v = .int .i64 0 ∧ (w.alloc (.cells #[] 170)) = wr) (fun _ _ => 0)
    case atStart => exact ⟨rfl, rfl⟩
    case round =>
      obtain ⟨rfl, rfl⟩ := hrel
      go_wp2
      go_loopw [9] (fun v wr => v = .int .i64 0 ∧ (w.alloc (.cells #[] 170)) = wr) (fun _ _ => 0)
      case atStart => exact ⟨rfl, rfl⟩
      case round =>
        obtain ⟨rfl, rfl⟩ := hrel
        go_wp2
        go_loopw [11] (fun v wr => v = .int .i64 0 ∧ (w.alloc (.cells #[] 170)) = wr) (fun _ _ => 0)
        case atStart => exact ⟨rfl, rfl⟩
        case round =>
          obtain ⟨rfl, rfl⟩ := hrel
          go_wp2
          go_loopw [14] (fun v wr => v = .int .i64 0 ∧ (w.alloc (.cells #[] 170)) = wr) (fun _ _ => 0)
          case atStart => exact ⟨rfl, rfl⟩
          case round =>
            obtain ⟨rfl, rfl⟩ := hrel
            go_wp2
            go_ret
            exact ⟨rfl, Grow.alloc _ _⟩
set_option maxRecDepth 100000 in
theorem flatParts_nil (w : World) : Calls Tryz.prog 53 #[.slice none 0 0] w fun e w' => e = .returned (.bool true) ∧ Grow w w' := by
  have hmk : ∀ W, (Instr.makeSlice 74 (.int .i64 0) (.int .i64 0)).run Tryz.prog W = .ok (.slice (some ⟨W.heap.size, 0, none⟩) 0 0) (W.alloc (.cells #[] 175)) := fun _ => by kernel_rfl
  go_enter Tryz.func53, Tryz.ntmps53
  go_wp2
  go_loopw [3] (fun v wr => v = .int .i64 0 ∧ w = wr) (fun _ _ => 0)
  case atStart => exact ⟨rfl, rfl⟩
  case round =>
    obtain ⟨rfl, rfl⟩ := hrel
    go_wp2
    go_loopw [6] (fun v wr => v = .int .i64 0 ∧ (w.alloc (.cells #[] 175)) = wr) (fun _ _ => 0)
    case atStart => exact ⟨rfl, rfl⟩
    case round =>
      obtain ⟨rfl, rfl⟩ := hrel
      go_wp2
      go_loopw [9] (fun v wr => v = .int .i64 0 ∧ (w.alloc (.cells #[] 175)) = wr) (fun _ _ => 0)
      case atStart => exact ⟨rfl, rfl⟩
      case round =>
        obtain ⟨rfl, rfl⟩ := hrel
        go_wp2
        go_loopw [11] (fun v wr => v = .int .i64 0 ∧ (w.alloc (.cells #[] 175)) = wr) (fun _ _ => 0)
        case atStart => exact ⟨rfl, rfl⟩
        case round =>
          obtain ⟨rfl, rfl⟩ := hrel
          go_wp2
          go_loopw [14] (fun v wr => v = .int .i64 0 ∧ (w.alloc (.cells #[] 175)) = wr) (fun _ _ => 0)
          case atStart => exact ⟨rfl, rfl⟩
          case round =>
            obtain ⟨rfl, rfl⟩ := hrel
            go_wp2
            go_ret
            exact ⟨rfl, Grow.alloc _ _⟩
set_option maxRecDepth 100000 in
theorem flatChanges_nil (w : World) : Calls Tryz.prog 54 #[.slice none 0 0] w fun e w' => e = .returned (.bool true) ∧ Grow w w' := by
  have hmk : ∀ W, (Instr.makeSlice 75 (.int .i64 0) (.int .i64 0)).run Tryz.prog W = .ok (.slice (some ⟨W.heap.size, 0, none⟩) 0 0) (W.alloc (.cells #[] 180)) := fun _ => by kernel_rfl
  go_enter Tryz.func54, Tryz.ntmps54
  go_wp2
  go_loopw [3] (fun v wr => v = .int .i64 0 ∧ w = wr) (fun _ _ => 0)
  case atStart => exact ⟨rfl, rfl⟩
  case round =>
    obtain ⟨rfl, rfl⟩ := hrel
    go_wp2
    go_loopw [6] (fun v wr => v = .int .i64 0 ∧ (w.alloc (.cells #[] 180)) = wr) (fun _ _ => 0)
    case atStart => exact ⟨rfl, rfl⟩
    case round =>
      obtain ⟨rfl, rfl⟩ := hrel
      go_wp2
      go_loopw [9] (fun v wr => v = .int .i64 0 ∧ (w.alloc (.cells #[] 180)) = wr) (fun _ _ => 0)
      case atStart => exact ⟨rfl, rfl⟩
      case round =>
        obtain ⟨rfl, rfl⟩ := hrel
        go_wp2
        go_loopw [11] (fun v wr => v = .int .i64 0 ∧ (w.alloc (.cells #[] 180)) = wr) (fun _ _ => 0)
        case atStart => exact ⟨rfl, rfl⟩
        case round =>
          obtain ⟨rfl, rfl⟩ := hrel
          go_wp2
          go_loopw [14] (fun v wr => v = .int .i64 0 ∧ (w.alloc (.cells #[] 180)) = wr) (fun _ _ => 0)
          case atStart => exact ⟨rfl, rfl⟩
          case round =>
            obtain ⟨rfl, rfl⟩ := hrel
            go_wp2
            go_ret
            exact ⟨rfl, Grow.alloc _ _⟩
end Go.Proofs.YtfjnjlcmikhehaaGreat

namespace Go.Proofs.YtfjnjlcmikhehaaGreat
open Go.RowKit

/-- the mark of a place among bytes, as a cell -/
def mkB (k j : Nat) : Value := .int .u8 ((markB (k : Int) (j : Int)).toNat : Int)
theorem mkB_one (k n : Nat) : ∀ u ∈ marksV mkB k n, u.oneCell' = true := fun u hu => by
  rw [marksV, List.mem_map] at hu
  obtain ⟨j, _, rfl⟩ := hu
  rfl

/-- each row holds its marks -/
def RowsMarked (w : World) (B : Nat) (vs : List Value) (N : Nat → Nat) : Prop := ∀ (j : Nat) (v : Value), vs[j]? = some v → w.ownsRow B 5 1 v (N j) (marksV mkB j (N j))
theorem RowsMarked.grow {w w' : World} {B : Nat} {vs : List Value} {N : Nat → Nat} (h : RowsMarked w B vs N) (hg : Grow w w') : RowsMarked w' B vs N := fun j v hv => own_below (h j v hv) hg
theorem markByte_still (k i : Int) (w : World) (hk : 0 ≤ k) (hk2 : k ≤ 1000000000000) (hi : 0 ≤ i) (hi2 : i ≤ 1000000000000000000) :
    Calls Tryz.prog 20 #[.int .i64 k, .int .i64 i] w fun e w' => e = .returned (.int .u8 ((markB k i).toNat : Int)) ∧ w' = w :=
  (markByte_any k i w hk hk2 hi hi2).mono fun _ _ ⟨h1, h2⟩ => ⟨h1, h2.symm⟩

theorem markByte_at (k j : Nat) (x : Int) (y : UInt8) (w : World) (hx : x = (j : Int)) (hy : mkB k j = .int .u8 (y.toNat : Int)) (hk : k ≤ 1000000000000) (hj : j ≤ 1000000000000000000) :
    Calls Tryz.prog 20 #[.int .i64 (k : Int), .int .i64 x] w fun e w' => e = .returned (.int .u8 (y.toNat : Int)) ∧ w = w' := by
  subst hx
  rw [← hy]
  exact markByte_any _ _ w (by omega) (by omega) (by omega) (by omega)

set_option maxRecDepth 100000 in
set_option maxHeartbeats 8000000 in
theorem flatBytes_any (w : World) (B Bt : Nat) (A : Option Addr) (m c : Nat) (vs : List Value) (N : Nat → Nat) (hT : w.ownsRow Bt 22 1 (.slice A m c) m vs) (hV : ∀ (j : Nat) (v : Value), vs[j]? = some v → ∃ L, w.ownsRow B 5 1 v (N j) L) (hd : DistV vs)
    (hB : B ≤ w.heap.size) (hm : m ≤ 1000000) (hN : ∀ j, N j ≤ 1000000000) :
    Calls Tryz.prog 39 #[.slice A m c] w fun e w' => e = .returned (.bool true) ∧ Keep (OwnS vs) w w' ∧ RowsMarked w' B vs N := by
  have bytesTy : AppTy Tryz.prog 22 5 (.int .u8 0) 1 1 := AppTy.mk' Tryz.underlying22 (by kernel_rfl) rfl (by decide)
  have hne : 5 ≠ 22 := by decide
  have HN := Lib.hid hN
  have Hd := Lib.hid hd
  have hvl : vs.length = m := by have := hT.1; omega
  have Hvl := Lib.hid hvl
  have hP0 : Ph1 5 22 mkB w w B Bt A m c vs N 0 0 := ⟨hT, fun j v hv => by
    obtain ⟨L, hL⟩ := hV j v hv
    exact ⟨L, hL, fun q _ h => by omega⟩, Keep.refl _ _⟩
  clear hN hd hvl hV hT
  go_enter Tryz.func39, Tryz.ntmps39
  go_wp2
  go_loopw [3] (fun v3 wr => ∃ k : Nat, k ≤ m ∧ v3 = .int .i64 (k : Int) ∧ Ph1 5 22 mkB w wr B Bt A m c vs N k 0) (fun v3 _ => m - (intOf v3).toNat)
  case atStart => exact ⟨0, by omega, rfl, hP0⟩
  case round =>
    clear hP0
    obtain ⟨k, hk, rfl, hP⟩ := hrel
    obtain ⟨wo, rfl⟩ : ∃ wo : World, wo = wr := ⟨_, rfl⟩
    by_cases hlt : k < m
    · obtain ⟨r, cap, e, -, -, -, -⟩ := own_slice hP.tab (by omega)
      injection e with e1 e2 e3
      subst e1 e3
      obtain ⟨v, hv⟩ : ∃ v, vs[k]? = some v := ⟨_, List.getElem?_eq_getElem (by rw [Hvl.out]; exact hlt)⟩
      obtain ⟨n, hn⟩ : ∃ n, n = N k := ⟨_, rfl⟩
      obtain ⟨A1, c1, rfl, -, -, -⟩ : ∃ A1 c1, v = .slice A1 n c1 ∧ n ≤ c1 ∧ c1 ≤ maxLen ∧ True := by
        obtain ⟨L, hL, _⟩ := hP.own k v hv
        obtain ⟨A1, c1, e, h1, h2, _⟩ := own_reads hL
        rw [hn]
        exact ⟨A1, c1, e, h1, h2, trivial⟩
      have hnb : n ≤ 1000000000 := by rw [hn]; exact HN.out k
      have Hv := Lib.hid hv
      have Hn := Lib.hid hn
      clear hv hn
      go_wp2
      go_loopw [4] (fun v4 wr => ∃ i : Nat, i ≤ n ∧ v4 = .int .i64 (i : Int) ∧ Ph1 5 22 mkB w wr B Bt (some ⟨r, 0, none⟩) m c vs N k i) (fun v4 _ => n - (intOf v4).toNat)
      case atStart => exact ⟨0, by omega, rfl, hP⟩
      case round =>
        clear hP
        obtain ⟨i, hi, rfl, hP⟩ := hrel
        have hcv := own_cell hP.tab Hv.out
        by_cases hli : i < n
        · obtain ⟨L, hL, -⟩ := hP.own k _ Hv.out
          rw [← Hn.out] at hL
          obtain ⟨b, cap, e, -, -, -, -⟩ := own_slice hL (by omega)
          injection e with e1 e2 e3
          subst e1 e3
          have hll : L.length = n := by have := hL.1; omega
          obtain ⟨x, hx⟩ : ∃ x, L[i]? = some x := ⟨_, List.getElem?_eq_getElem (by omega)⟩
          have hcx := own_cell hL hx
          have hfx := own_free hL i
          have hP2 := hP.store hne Hd.out (b := b) (cap := c1) (by rw [← Hn.out]; exact Hv.out) (by rw [← Hn.out]; exact hli)
          have HP2 := Lib.hid hP2
          clear hP2 hP hL hx hll
          go_wp2_with fail
          go_still_tail 9, (by kernel_rfl)
          still_call (markByte_still (k : Int) (i : Int) _ (by omega) (by omega) (by omega) (by omega))
          repeat still_step
          refine wpStill_nil ?_
          change wpList _ _ _ _ _ wr.drew
          go_wp2
          go_roundw
          case rel => exact ⟨i + 1, by omega, by go_num, HP2.out.grow (Grow.drew _)⟩
          case measure => simp [intOf]; omega
        · obtain rfl : i = n := by omega
          have hP2 := (show Ph1 5 22 mkB w wr B Bt (some ⟨r, 0, none⟩) m c vs N k (N k) by rw [← Hn.out]; exact hP).row
          clear hP
          go_wp2
          go_roundw
          case rel => exact ⟨k + 1, by omega, by go_num, hP2⟩
          case measure => simp [intOf]; omega
    · obtain rfl : m = k := by omega
      have hH0 := hP.keep.size
      have hfb0 : FB 5 22 mkB w (wo.alloc (.cells (List.replicate m (Value.slice none 0 0)).toArray 22)) B Bt A m c vs N wo.heap.size wo.heap.size (List.replicate m (Value.slice none 0 0)) :=
        ⟨own_below hP.tab (Grow.alloc _ _), fun j v hv => own_below (hP.done j v hv) (Grow.alloc _ _), Blk.new _ _ _, by simp, hP.keep.trans' (Keep.alloc _ _), hH0, by simp, Nat.le_refl _, (fun b ⟨j, v, hv, hb⟩ => ((hP.done j v hv).lt b hb).2), fun b hb => (hP.tab.lt b hb).2⟩
      have hmk := run_make_cells (P := Tryz.prog) (show AppTy Tryz.prog 61 22 (.slice none 0 0) 1 24 from AppTy.mk' Tryz.underlying61 (by kernel_rfl) rfl (by decide)) rfl .i64 .i64 m (by omega) (by omega) wo
      have hBo : B ≤ wo.heap.size := by omega
      obtain ⟨H0, hH⟩ : ∃ H0, H0 = wo.heap.size := ⟨_, rfl⟩
      clear hP hk hlt
      go_wp2_with fail
      rw [← hH] at hfb0 hBo ⊢
      have HH := Lib.hid hH
      clear hH hmk hH0
      go_loopw [6] (fun v6 wr => ∃ (k : Nat) (gs : List Value), k ≤ m ∧ v6 = .int .i64 (k : Int) ∧ FB 5 22 mkB w wr B Bt A m c vs N H0 H0 gs ∧ GP 5 mkB wr B vs gs N H0 k 64) (fun v6 _ => m - (intOf v6).toNat)
      case atStart => exact ⟨0, _, by omega, rfl, hfb0, GP.none⟩
      case round =>
        clear hfb0
        obtain ⟨k, gs, hk, rfl, hfb, hgp⟩ := hrel
        obtain ⟨wp, rfl⟩ : ∃ wp : World, wp = wr := ⟨_, rfl⟩
        by_cases hlt : k < m
        · obtain ⟨r, cap, e, -, -, -, -⟩ := own_slice hfb.tab (by omega)
          injection e with e1 e2 e3
          subst e1 e3
          obtain ⟨v, hv⟩ : ∃ v, vs[k]? = some v := ⟨_, List.getElem?_eq_getElem (by rw [Hvl.out]; exact hlt)⟩
          obtain ⟨n, hn⟩ : ∃ n, n = N k := ⟨_, rfl⟩
          obtain ⟨A1, c1, rfl, -, -, -⟩ := own_reads (hfb.own k v hv)
          rw [← hn] at hv
          have hnb : n ≤ 1000000000 := by rw [hn]; exact HN.out k
          have Hv := Lib.hid hv
          have Hn := Lib.hid hn
          have hcv := own_cell hfb.tab hv
          have hov := hfb.own k _ hv
          have hlv := LocV.start hfb hv
          rw [← hn] at hov hlv
          clear hv hn
          go_wp2_with fail
          go_loopw [7, 8] (fun v7 v8 wr => ∃ (i : Nat) (g : Value), i ≤ 64 ∧ v8 = .int .i64 (i : Int) ∧ v7 = g ∧ FB 5 22 mkB w wr B Bt (some ⟨r, 0, none⟩) m c vs N H0 H0 gs ∧ GP 5 mkB wr B vs gs N H0 k 64 ∧ wr.ownsRow B 5 1 g (n + i) (marksV mkB k (n + i)) ∧ LocV vs gs N H0 k g (n + i)) (fun _ v8 _ => 64 - (intOf v8).toNat)
          case atStart => exact ⟨0, _, by omega, rfl, rfl, hfb, hgp, hov, hlv⟩
          case round =>
            clear hfb hgp hov hlv hcv
            obtain ⟨i, g, hi, rfl, rfl, hfb, hgp, hog, hlg⟩ := hrel
            have hcv := own_cell hfb.tab Hv.out
            by_cases hli : i < 64
            · have Hfb := Lib.hid hfb
              have Hgp := Lib.hid hgp
              have Hog := Lib.hid hog
              have Hlg := Lib.hid hlg
              obtain ⟨y, hy⟩ : ∃ y : UInt8, mkB k (n + i) = .int .u8 (y.toNat : Int) := ⟨_, rfl⟩
              have hbz : B ≤ (wr.alloc (.cells #[.int .u8 (y.toNat : Int)] 5)).heap.size := by have := hfb.hz; simp; omega
              have Hy := Lib.hid hy
              clear hy
              clear hfb hgp hog hlg
              go_wp2_with (first | (go_at_call 20; refine (markByte_at k (n + i) _ y _ (by omega) Hy.out (by omega) (by omega)).mono ?_; rintro e w8 ⟨rfl, rfl⟩) | (at_builtin; refine wpList_append_two _ rfl (.tmp 57) (.tmp 67) rfl bytesTy rfl (own_below Hog.out (Grow.alloc _ _)) rfl (ReadsAt.made1 _ _ _) (by simp [Value.oneCell']) (by simp only [maxLen]; omega) (by omega) hbz ?_; intro g' w9 hown9 htw))
              obtain ⟨h1, h2, h3⟩ := step_two hne Hd.out (Hfb.out.grow (Grow.alloc _ _)) (Hgp.out.grow (Grow.alloc _ _)) (own_below Hog.out (Grow.alloc _ _)) (by rw [← Hn.out, marksV_take mkB k (Nat.le_add_right n i)]) (by rw [← Hn.out]; omega) Hlg.out hown9 htw
              rw [← Hy.out, ← marksV_succ] at hown9
              clear htw
              go_wp2
              go_roundw
              case rel => exact ⟨i + 1, _, by omega, by go_num, rfl, h1, h2, hown9, h3⟩
              case measure => simp [intOf]; omega
            · obtain rfl : i = 64 := by omega
              obtain ⟨A5, c5, rfl, -, -, -⟩ := own_reads hog
              obtain ⟨old, hold⟩ : ∃ old, gs.toArray[k]? = some old := ⟨gs[k]'(by rw [hfb.glen]; exact hlt), by simp [hfb.glen, hlt]⟩
              have hcq := hfb.gtab.cell k
              rw [hold] at hcq
              have hfq := hfb.gtab.frozen k
              have hg2 := hgp.put hfb hne Hd.out (g := .slice A5 (n + 64) c5) (L := marksV mkB k (n + 64)) (by rw [← Hn.out]; exact hog) (fun q hq => marksV_get mkB (by rw [← Hn.out] at hq; exact hq)) (by rw [← Hn.out]; exact hlg) hlt
              have hf2 := hfb.setTab hne k (.slice A5 (n + 64) c5)
              have Hg2 := Lib.hid hg2
              have Hf2 := Lib.hid hf2
              clear hfb hgp hog hlg hg2 hf2 hold
              go_wp2
              go_roundw
              case rel => exact ⟨k + 1, _, by omega, by go_num, Hf2.out, Hg2.out⟩
              case measure => simp [intOf]; omega
        · obtain rfl : m = k := by omega
          go_wp2_with fail
          go_loopw [9] (fun v9 wr => ∃ k d : Nat, k ≤ m ∧ v9 = .int .i64 (k : Int) ∧ wp.drewN d = wr) (fun v9 _ => m - (intOf v9).toNat)
          case atStart => exact ⟨0, 0, by omega, rfl, rfl⟩
          case round =>
            obtain ⟨k, d, hk2, rfl, rfl⟩ := hrel
            by_cases hlt : k < m
            · obtain ⟨r, cap, e, -, -, -, -⟩ := own_slice hfb.tab (by omega)
              injection e with e1 e2 e3
              subst e1 e3
              obtain ⟨v, hv⟩ : ∃ v, vs[k]? = some v := ⟨_, List.getElem?_eq_getElem (by rw [Hvl.out]; exact hlt)⟩
              obtain ⟨g, hg⟩ : ∃ g, gs[k]? = some g := ⟨_, List.getElem?_eq_getElem (by rw [hfb.glen]; exact hlt)⟩
              obtain ⟨n, hn⟩ : ∃ n, n = N k := ⟨_, rfl⟩
              obtain ⟨A1, c1, rfl, -, -, -⟩ := own_reads (hfb.own k v hv)
              obtain ⟨L, hL, hLm⟩ := hgp.own k g hlt hg
              obtain ⟨b, c2, rfl, -, -, -, -⟩ := own_slice hL (by omega)
              have hov := hfb.own k _ hv
              rw [← hn] at hv hov hg hL hLm
              have hnb : n ≤ 1000000000 := by rw [hn]; exact HN.out k
              have hcv := own_cell hfb.tab hv
              have hcg := hfb.gtab.cell k
              rw [List.getElem?_toArray, hg] at hcg
              have Hov := Lib.hid hov
              have HL := Lib.hid hL
              have HLm := Lib.hid hLm
              have Hfb := Lib.hid hfb
              have Hgp := Lib.hid hgp
              clear hfb hgp hv hg hn hov hL hLm
              go_wp2_with fail
              go_loopw [10] (fun v10 wr => ∃ i d : Nat, i ≤ n + 64 ∧ v10 = .int .i64 (i : Int) ∧ wp.drewN d = wr) (fun v10 _ => n + 64 - (intOf v10).toNat)
              case atStart => exact ⟨0, d, by omega, rfl, rfl⟩
              case round =>
                obtain ⟨i, d, hi, rfl, rfl⟩ := hrel
                by_cases hli : i < n + 64
                · obtain ⟨y, hy⟩ : ∃ y : UInt8, mkB k i = .int .u8 (y.toNat : Int) := ⟨_, rfl⟩
                  have hcm := fun W => markByte_at k i (i : Int) y W rfl hy (by omega) (by omega)
                  have Hcm := Lib.hid hcm
                  have hcx := own_cell HL.out (HLm.out i hli)
                  rw [hy] at hcx
                  have hyy : ((y.toNat : Int) == (y.toNat : Int)) = true := by simp
                  have Hy := Lib.hid hy
                  clear hcm hy
                  by_cases hin : i < n
                  · obtain ⟨bv, cv, e, -, -, -, -⟩ := own_slice Hov.out (by omega)
                    injection e with e1 e2 e3
                    subst e1 e3
                    have hcy := own_cell Hov.out (marksV_get mkB hin)
                    rw [Hy.out] at hcy
                    have hg1 : decide (i < n) = true := by simpa using hin
                    go_wp2_with fail
                    go_quiet ((go_at_call 20; exact quiet_add_left (Hcm.out _)))
                    go_wp2
                    go_roundw
                    case rel => exact ⟨i + 1, _, by omega, by go_num, rfl⟩
                    case measure => simp [intOf]; omega
                  · have hg1 : decide (i < n) = false := by simpa using hin
                    go_wp2_with fail
                    go_quiet ((go_at_call 20; exact quiet_add_left (Hcm.out _)))
                    go_wp2
                    go_roundw
                    case rel => exact ⟨i + 1, _, by omega, by go_num, rfl⟩
                    case measure => simp [intOf]; omega
                · obtain rfl : i = n + 64 := by omega
                  go_wp2
                  go_roundw
                  case rel => exact ⟨k + 1, _, by omega, by go_num, rfl⟩
                  case measure => simp [intOf]; omega
            · obtain rfl : m = k := by omega
              have hfb4 := hfb.grow (Grow.drewN wp d)
              clear hfb hgp
              go_wp2_with fail
              go_loopw [11] (fun v11 wr => ∃ (k : Nat) (gs : List Value), k ≤ m ∧ v11 = .int .i64 (k : Int) ∧ FB 5 22 mkB w wr B Bt A m c vs N H0 H0 gs ∧ GP 5 mkB wr B vs gs N H0 k 0) (fun v11 _ => m - (intOf v11).toNat)
              case atStart => exact ⟨0, _, by omega, rfl, hfb4, GP.none⟩
              case round =>
                clear hfb4
                obtain ⟨k, gs4, hk4, rfl, hfb, hgp⟩ := hrel
                obtain ⟨wt, rfl⟩ : ∃ wt : World, wt = wr := ⟨_, rfl⟩
                by_cases hlt : k < m
                · obtain ⟨r, cap, e, -, -, -, -⟩ := own_slice hfb.tab (by omega)
                  injection e with e1 e2 e3
                  subst e1 e3
                  obtain ⟨v, hv⟩ : ∃ v, vs[k]? = some v := ⟨_, List.getElem?_eq_getElem (by rw [Hvl.out]; exact hlt)⟩
                  obtain ⟨n, hn⟩ : ∃ n, n = N k := ⟨_, rfl⟩
                  obtain ⟨A1, c1, rfl, -, -, -⟩ := own_reads (hfb.own k v hv)
                  have hov := hfb.own k _ hv
                  have hlv := LocV.start hfb hv
                  rw [← hn] at hv hov hlv
                  have hnb : n ≤ 1000000000 := by rw [hn]; exact HN.out k
                  have Hv := Lib.hid hv
                  have Hn := Lib.hid hn
                  have Hov := Lib.hid hov
                  have Hlv := Lib.hid hlv
                  have Hfb := Lib.hid hfb
                  have Hgp := Lib.hid hgp
                  have hwtz := hfb.hz
                  obtain ⟨Z, hZ⟩ : ∃ Z : Array Value, Z = ((List.replicate 64 (0 : UInt8)).map b8).toArray := ⟨_, rfl⟩
                  have hmk : (Instr.makeSlice 22 (.int .i64 64) (.int .i64 64)).run Tryz.prog wt = .ok (.slice (some ⟨wt.heap.size, 0, none⟩) 64 64) (wt.alloc (.cells Z 5)) := by
                    rw [hZ]
                    exact run_make_cells (P := Tryz.prog) bytesTy rfl .i64 .i64 64 (by omega) (by omega) wt
                  have hbk : Blk (wt.alloc (.cells Z 5)) wt.heap.size 5 ((List.replicate 64 (0 : UInt8)).map b8).toArray := by rw [← hZ]; exact Blk.new _ _ _
                  clear hfb hgp hv hn hov hlv hZ
                  go_wp2_with fail
                  go_loopw [13] (fun v13 wr => ∃ (i : Nat) (L : List UInt8), i ≤ 64 ∧ v13 = .int .i64 (i : Int) ∧ Hid (L.length = 64) ∧ Blk wr wt.heap.size 5 (L.map b8).toArray ∧ Grow wt wr) (fun v13 _ => 64 - (intOf v13).toNat)
                  case atStart => exact ⟨0, _, by omega, rfl, List.length_replicate, hbk, Grow.alloc _ _⟩
                  case round =>
                    clear hbk hmk
                    obtain ⟨i, L, hi, rfl, hLl, hbk, hgr⟩ := hrel
                    by_cases hli : i < 64
                    · have hcm := fun W => markByte_any ((k : Int) + (m : Int)) (i : Int) W (by omega) (by omega) (by omega) (by omega)
                      generalize markB ((k : Int) + (m : Int)) (i : Int) = y at hcm
                      have Hcm := Lib.hid hcm
                      obtain ⟨x, hx⟩ : ∃ x, L[i]? = some x := ⟨_, List.getElem?_eq_getElem (by rw [hLl.out]; exact hli)⟩
                      have hcx := hbk.byte i x hx
                      have hfx := hbk.frozen i
                      have hb2 := hbk.set i (b8 y)
                      have hb3 : Blk (wr.setCell ⟨wt.heap.size, i, none⟩ (b8 y)) wt.heap.size 5 ((L.set i y).map b8).toArray := by
                        rw [List.map_set]
                        simpa using hb2
                      have hg3 : Grow wt (wr.setCell ⟨wt.heap.size, i, none⟩ (b8 y)) := Below.setCell hgr (p := ⟨wt.heap.size, i, none⟩) (Nat.le_refl _) _
                      have hl3 : Hid ((L.set i y).length = 64) := by show _ = _; rw [List.length_set]; exact hLl.out
                      have Hb3 := Lib.hid hb3
                      have Hg3 := Lib.hid hg3
                      clear hcm hx hb2 hb3 hg3 hbk hgr
                      go_wp2_with (go_at_call 20; refine (Hcm.out _).mono ?_; rintro e w8 ⟨rfl, rfl⟩)
                      go_roundw
                      case rel => exact ⟨i + 1, L.set i y, by omega, by go_num, hl3, Hb3.out, Hg3.out⟩
                      case measure => simp [intOf]; omega
                    · obtain rfl : i = 64 := by omega
                      have hmany : BytesAt wr wr.heap.size (some ⟨wt.heap.size, 0, none⟩) 64 L := by
                        have := BytesAt.of_row hbk.cells hbk.lt
                        rwa [hLl.out] at this
                      have hfb := Hfb.out.grow hgr
                      have hgp := Hgp.out.grow hgr
                      have hov := own_below Hov.out hgr
                      have hcv := own_cell hfb.tab Hv.out
                      have hbz : B ≤ wr.heap.size := by have := hgr.size; omega
                      have hfb' := Lib.hid hfb
                      have hgp' := Lib.hid hgp
                      have hov' := Lib.hid hov
                      clear hbk hfb hgp hov hgr
                      obtain ⟨old, hold⟩ : ∃ old, gs4.toArray[k]? = some old := ⟨gs4[k]'(by rw [hfb'.out.glen]; exact hlt), by simp [hfb'.out.glen, hlt]⟩
                      go_wp2_with (at_builtin; refine wpList_append_two _ rfl (.tmp 148) (.tmp 149) rfl bytesTy rfl hov'.out rfl hmany (b8_one L) (by simp only [maxLen]; omega) (by omega) hbz ?_; intro g' w9 hown9 htw; have hst := step_two hne Hd.out hfb'.out hgp'.out hov'.out (by rw [← Hn.out, marksV_take mkB k (Nat.le_refl n)]) (by rw [← Hn.out]; exact Nat.le_refl _) Hlv.out hown9 htw; have hcq := hst.1.gtab.cell k; rw [hold] at hcq; have hfq := hst.1.gtab.frozen k; obtain ⟨A5, c5, rfl, -, -, -⟩ := own_reads hown9; have Hst := Lib.hid hst; have Hown9 := Lib.hid hown9; clear hst hown9 htw)
                      have hg2 := Hst.out.2.1.put Hst.out.1 hne Hd.out (g := .slice A5 (n + 64) c5) (L := marksV mkB k n ++ L.map b8) (by rw [← Hn.out]; exact Hown9.out) (fun q hq => by rw [List.getElem?_append_left (by rw [marksV_length]; rw [← Hn.out] at hq; omega)]; exact marksV_get mkB (by rw [← Hn.out] at hq; omega)) (by rw [← Hn.out]; exact Hst.out.2.2) hlt
                      have hf2 := Hst.out.1.setTab hne k (.slice A5 (n + 64) c5)
                      go_roundw
                      case rel => exact ⟨k + 1, _, by omega, by go_num, hf2, hg2⟩
                      case measure => simp [intOf]; omega
                · obtain rfl : m = k := by omega
                  go_wp2_with fail
                  go_loopw [14] (fun v14 wr => ∃ k d : Nat, k ≤ m ∧ v14 = .int .i64 (k : Int) ∧ wt.drewN d = wr) (fun v14 _ => m - (intOf v14).toNat)
                  case atStart => exact ⟨0, 0, by omega, rfl, rfl⟩
                  case round =>
                    obtain ⟨k, d, hk2, rfl, rfl⟩ := hrel
                    by_cases hlt : k < m
                    · obtain ⟨r, cap, e, -, -, -, -⟩ := own_slice hfb.tab (by omega)
                      injection e with e1 e2 e3
                      subst e1 e3
                      obtain ⟨v, hv⟩ : ∃ v, vs[k]? = some v := ⟨_, List.getElem?_eq_getElem (by rw [Hvl.out]; exact hlt)⟩
                      obtain ⟨g, hg⟩ : ∃ g, gs4[k]? = some g := ⟨_, List.getElem?_eq_getElem (by rw [hfb.glen]; exact hlt)⟩
                      obtain ⟨n, hn⟩ : ∃ n, n = N k := ⟨_, rfl⟩
                      obtain ⟨A1, c1, rfl, -, -, -⟩ := own_reads (hfb.own k v hv)
                      obtain ⟨L, hL, hLm⟩ := hgp.own k g hlt hg
                      obtain ⟨b, c2, rfl, -, -, -, -⟩ := own_slice hL (by omega)
                      have hov := hfb.own k _ hv
                      rw [← hn] at hv hov hg hL hLm
                      have hnb : n ≤ 1000000000 := by rw [hn]; exact HN.out k
                      have hcv := own_cell hfb.tab hv
                      have hcg := hfb.gtab.cell k
                      rw [List.getElem?_toArray, hg] at hcg
                      have Hov := Lib.hid hov
                      have HL := Lib.hid hL
                      have HLm := Lib.hid hLm
                      have Hfb := Lib.hid hfb
                      have Hgp := Lib.hid hgp
                      clear hfb hgp hv hg hn hov hL hLm
                      go_wp2_with fail
                      go_loopw [15] (fun v15 wr => ∃ i d : Nat, i ≤ n ∧ v15 = .int .i64 (i : Int) ∧ wt.drewN d = wr) (fun v15 _ => n - (intOf v15).toNat)
                      case atStart => exact ⟨0, d, by omega, rfl, rfl⟩
                      case round =>
                        obtain ⟨i, d, hi, rfl, rfl⟩ := hrel
                        by_cases hin : i < n
                        · obtain ⟨y, hy⟩ : ∃ y : UInt8, mkB k i = .int .u8 (y.toNat : Int) := ⟨_, rfl⟩
                          have hcm := fun W => markByte_at k i (i : Int) y W rfl hy (by omega) (by omega)
                          have Hcm := Lib.hid hcm
                          have hcx := own_cell HL.out (HLm.out i (by omega))
                          rw [hy] at hcx
                          have hyy : ((y.toNat : Int) == (y.toNat : Int)) = true := by simp
                          have Hy := Lib.hid hy
                          clear hcm hy
                          obtain ⟨bv, cv, e, -, -, -, -⟩ := own_slice Hov.out (by omega)
                          injection e with e1 e2 e3
                          subst e1 e3
                          have hcy := own_cell Hov.out (marksV_get mkB hin)
                          rw [Hy.out] at hcy
                          go_wp2_with fail
                          go_quiet ((go_at_call 20; exact quiet_add_left (Hcm.out _)))
                          go_wp2
                          go_roundw
                          case rel => exact ⟨i + 1, _, by omega, by go_num, rfl⟩
                          case measure => simp [intOf]; omega
                        · obtain rfl : n = i := by omega
                          go_wp2
                          go_roundw
                          case rel => exact ⟨k + 1, _, by omega, by go_num, rfl⟩
                          case measure => simp [intOf]; omega
                    · obtain rfl : m = k := by omega
                      have hkp := hfb.keep.trans' (Keep.grow (Grow.drewN wt d))
                      go_wp2
                      go_ret
                      exact ⟨rfl, hkp, fun j v hv => own_below (hfb.own j v hv) (Grow.drewN wt d)⟩
end Go.Proofs.YtfjnjlcmikhehaaGreat

namespace Go.Proofs.YtfjnjlcmikhehaaGreat
open Go.RowKit

/-- the cells of a bag that holds rows of bytes alone -/
abbrev bagV (tab : Value) : Array Value := #[.slice none 0 0, .slice none 0 0, .slice none 0 0, .slice none 0 0, .slice none 0 0, tab, .slice none 0 0, .slice none 0 0, .slice none 0 0, .slice none 0 0, .slice none 0 0, .slice none 0 0, .slice none 0 0, .slice none 0 0, .slice none 0 0, .slice none 0 0, .slice none 0 0, .slice none 0 0, .slice none 0 0, .slice none 0 0, .slice none 0 0]

set_option maxRecDepth 100000 in
set_option maxHeartbeats 8000000 in
theorem apart_any (w : World) (g B Bt : Nat) (A : Option Addr) (m c : Nat) (vs : List Value) (N : Nat → Nat) (hb : Blk w g 77 (bagV (.slice A m c))) (hT : w.ownsRow Bt 22 1 (.slice A m c) m vs) (hV : ∀ (j : Nat) (v : Value), vs[j]? = some v → ∃ L, w.ownsRow B 5 1 v (N j) L) (hd : DistV vs)
    (hB : B ≤ w.heap.size) (hm : m ≤ 1000000) (hN : ∀ j, N j ≤ 1000000000) :
    Calls Tryz.prog 25 #[.pointer (some ⟨g, 0, none⟩)] w fun e w' => e = .returned (.bool true) ∧ Keep (OwnS vs) w w' ∧ RowsMarked w' B vs N := by
  have hgS : ¬ OwnS vs g := fun ⟨j, v, hv, hvb⟩ => by
    obtain ⟨L, hL⟩ := hV j v hv
    exact absurd (own_type_blk hL hvb hb) (by decide)
  have hb0 := hb
  have hG0 : Grow w w := Grow.refl w
  have hc0 := hb0.cell 0
  have HV := Lib.hid hV
  have Hd := Lib.hid hd
  have HN := Lib.hid hN
  clear hV hd hN hb
  go_enter Tryz.func25, Tryz.ntmps25
  go_wp2_with (first | (go_at_call 34; refine (flatLimbs_nil _).mono ?_; rintro e w1 ⟨rfl, hg1⟩; have hb1 := hb0.below hg1 hb0.lt; have hG1 : Grow w w1 := hG0.trans hg1; have hc1 := hb1.cell 1) | (go_at_call 35; refine (flatWords_nil _).mono ?_; rintro e w2 ⟨rfl, hg2⟩; have hb2 := hb1.below hg2 hb1.lt; have hG2 : Grow w w2 := hG1.trans hg2; have hc2 := hb2.cell 2; clear hc1) | (go_at_call 36; refine (flatInts_nil _).mono ?_; rintro e w3 ⟨rfl, hg3⟩; have hb3 := hb2.below hg3 hb2.lt; have hG3 : Grow w w3 := hG2.trans hg3; have hc3 := hb3.cell 3; clear hc2) | (go_at_call 37; refine (flatLongs_nil _).mono ?_; rintro e w4 ⟨rfl, hg4⟩; have hb4 := hb3.below hg4 hb3.lt; have hG4 : Grow w w4 := hG3.trans hg4; have hc4 := hb4.cell 4; clear hc3) | (go_at_call 38; refine (flatTexts_nil _).mono ?_; rintro e w5 ⟨rfl, hg5⟩; have hb5 := hb4.below hg5 hb4.lt; have hG5 : Grow w w5 := hG4.trans hg5; have hc5 := hb5.cell 5; clear hc4) | (go_at_call 39; refine (flatBytes_any _ B Bt A m c vs N (own_below hT hG5) (fun j v hv => by obtain ⟨L, hL⟩ := HV.out j v hv; exact ⟨L, own_below hL hG5⟩) Hd.out (Nat.le_trans hB hG5.size) hm HN.out).mono ?_; rintro e w6 ⟨rfl, hk6, hM6⟩; have hb6 := hk6.blk hb5 hgS; have hK6 : Keep (OwnS vs) w w6 := Keep.trans' (Keep.grow hG5) hk6; have hc6 := hb6.cell 6; clear hc5) | (go_at_call 40; refine (flatTruths_nil _).mono ?_; rintro e w7 ⟨rfl, hg7⟩; have hb7 := hb6.below hg7 hb6.lt; have hK7 : Keep (OwnS vs) w w7 := hK6.trans' (Keep.grow hg7); have hM7 := hM6.grow hg7; have hc7 := hb7.cell 7; clear hc6) | (go_at_call 41; refine (flatNodes_nil _).mono ?_; rintro e w8 ⟨rfl, hg8⟩; have hb8 := hb7.below hg8 hb7.lt; have hK8 : Keep (OwnS vs) w w8 := hK7.trans' (Keep.grow hg8); have hM8 := hM7.grow hg8; have hc8 := hb8.cell 8; clear hc7) | (go_at_call 42; refine (flatInsts_nil _).mono ?_; rintro e w9 ⟨rfl, hg9⟩; have hb9 := hb8.below hg9 hb8.lt; have hK9 : Keep (OwnS vs) w w9 := hK8.trans' (Keep.grow hg9); have hM9 := hM8.grow hg9; have hc9 := hb9.cell 9; clear hc8) | (go_at_call 43; refine (flatQueries_nil _).mono ?_; rintro e w10 ⟨rfl, hg10⟩; have hb10 := hb9.below hg10 hb9.lt; have hK10 : Keep (OwnS vs) w w10 := hK9.trans' (Keep.grow hg10); have hM10 := hM9.grow hg10; have hc10 := hb10.cell 10; clear hc9) | (go_at_call 44; refine (flatFiles_nil _).mono ?_; rintro e w11 ⟨rfl, hg11⟩; have hb11 := hb10.below hg11 hb10.lt; have hK11 : Keep (OwnS vs) w w11 := hK10.trans' (Keep.grow hg11); have hM11 := hM10.grow hg11; have hc11 := hb11.cell 11; clear hc10) | (go_at_call 45; refine (flatDocs_nil _).mono ?_; rintro e w12 ⟨rfl, hg12⟩; have hb12 := hb11.below hg12 hb11.lt; have hK12 : Keep (OwnS vs) w w12 := hK11.trans' (Keep.grow hg12); have hM12 := hM11.grow hg12; have hc12 := hb12.cell 12; clear hc11) | (go_at_call 46; refine (flatPlaces_nil _).mono ?_; rintro e w13 ⟨rfl, hg13⟩; have hb13 := hb12.below hg13 hb12.lt; have hK13 : Keep (OwnS vs) w w13 := hK12.trans' (Keep.grow hg13); have hM13 := hM12.grow hg13; have hc13 := hb13.cell 13; clear hc12) | (go_at_call 47; refine (flatPostings_nil _).mono ?_; rintro e w14 ⟨rfl, hg14⟩; have hb14 := hb13.below hg14 hb13.lt; have hK14 : Keep (OwnS vs) w w14 := hK13.trans' (Keep.grow hg14); have hM14 := hM13.grow hg14; have hc14 := hb14.cell 14; clear hc13) | (go_at_call 48; refine (flatShardRefs_nil _).mono ?_; rintro e w15 ⟨rfl, hg15⟩; have hb15 := hb14.below hg15 hb14.lt; have hK15 : Keep (OwnS vs) w w15 := hK14.trans' (Keep.grow hg15); have hM15 := hM14.grow hg15; have hc15 := hb15.cell 15; clear hc14) | (go_at_call 49; refine (flatManifests_nil _).mono ?_; rintro e w16 ⟨rfl, hg16⟩; have hb16 := hb15.below hg16 hb15.lt; have hK16 : Keep (OwnS vs) w w16 := hK15.trans' (Keep.grow hg16); have hM16 := hM15.grow hg16; have hc16 := hb16.cell 16; clear hc15) | (go_at_call 50; refine (flatAsks_nil _).mono ?_; rintro e w17 ⟨rfl, hg17⟩; have hb17 := hb16.below hg17 hb16.lt; have hK17 : Keep (OwnS vs) w w17 := hK16.trans' (Keep.grow hg17); have hM17 := hM16.grow hg17; have hc17 := hb17.cell 17; clear hc16) | (go_at_call 51; refine (flatHits_nil _).mono ?_; rintro e w18 ⟨rfl, hg18⟩; have hb18 := hb17.below hg18 hb17.lt; have hK18 : Keep (OwnS vs) w w18 := hK17.trans' (Keep.grow hg18); have hM18 := hM17.grow hg18; have hc18 := hb18.cell 18; clear hc17) | (go_at_call 52; refine (flatAnswers_nil _).mono ?_; rintro e w19 ⟨rfl, hg19⟩; have hb19 := hb18.below hg19 hb18.lt; have hK19 : Keep (OwnS vs) w w19 := hK18.trans' (Keep.grow hg19); have hM19 := hM18.grow hg19; have hc19 := hb19.cell 19; clear hc18) | (go_at_call 53; refine (flatParts_nil _).mono ?_; rintro e w20 ⟨rfl, hg20⟩; have hb20 := hb19.below hg20 hb19.lt; have hK20 : Keep (OwnS vs) w w20 := hK19.trans' (Keep.grow hg20); have hM20 := hM19.grow hg20; have hc20 := hb20.cell 20; clear hc19) | (go_at_call 54; refine (flatChanges_nil _).mono ?_; rintro e w21 ⟨rfl, hg21⟩; have hb21 := hb20.below hg21 hb20.lt; have hK21 : Keep (OwnS vs) w w21 := hK20.trans' (Keep.grow hg21); have hM21 := hM20.grow hg21; clear hc20))
  go_ret
  exact ⟨rfl, hK21, hM21⟩

end Go.Proofs.YtfjnjlcmikhehaaGreat
