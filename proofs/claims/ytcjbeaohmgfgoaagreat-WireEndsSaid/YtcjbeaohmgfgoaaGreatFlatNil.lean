/-
  The walks of mudlarkkit's flat.. (but flatBytes) on lists of none. Printed by gen/flatnil.py.
-/
import Derived.Outline
import Derived.WalkKit
import Derived.LoopTactic
import Derived.Test.YtcjbeaohmgfgoaaGreatProg
import Derived.Test.YtcjbeaohmgfgoaaGreatFacts
namespace Go.Proofs.YtcjbeaohmgfgoaaGreat
open Go.RowKit

set_option maxRecDepth 100000 in
theorem flatLimbs_nil (w : World) : Calls Tryz.prog 82 #[.slice none 0 0] w fun e w' => e = .returned (.bool true) ∧ Grow w w' := by
  have hmk : ∀ W, (Instr.makeSlice 97 (.int .i64 0) (.int .i64 0)).run Tryz.prog W = .ok (.slice (some ⟨W.heap.size, 0, none⟩) 0 0) (W.alloc (.cells #[] 167)) := fun _ => by kernel_rfl
  go_enter Tryz.func82, Tryz.ntmps82
  go_wp2
  go_loopw [3] (fun v wr => v = .int .i64 0 ∧ w = wr) (fun _ _ => 0)
  case atStart => exact ⟨rfl, rfl⟩
  case round =>
    obtain ⟨rfl, rfl⟩ := hrel
    go_wp2
    go_loopw [6] (fun v wr => v = .int .i64 0 ∧ (w.alloc (.cells #[] 167)) = wr) (fun _ _ => 0)
    case atStart => exact ⟨rfl, rfl⟩
    case round =>
      obtain ⟨rfl, rfl⟩ := hrel
      go_wp2
      go_loopw [9] (fun v wr => v = .int .i64 0 ∧ (w.alloc (.cells #[] 167)) = wr) (fun _ _ => 0)
      case atStart => exact ⟨rfl, rfl⟩
      case round =>
        obtain ⟨rfl, rfl⟩ := hrel
        go_wp2
        go_loopw [11] (fun v wr => v = .int .i64 0 ∧ (w.alloc (.cells #[] 167)) = wr) (fun _ _ => 0)
        case atStart => exact ⟨rfl, rfl⟩
        case round =>
          obtain ⟨rfl, rfl⟩ := hrel
          go_wp2
          go_loopw [14] (fun v wr => v = .int .i64 0 ∧ (w.alloc (.cells #[] 167)) = wr) (fun _ _ => 0)
          case atStart => exact ⟨rfl, rfl⟩
          case round =>
            obtain ⟨rfl, rfl⟩ := hrel
            go_wp2
            go_ret
            exact ⟨rfl, Grow.alloc _ _⟩
set_option maxRecDepth 100000 in
theorem flatWords_nil (w : World) : Calls Tryz.prog 83 #[.slice none 0 0] w fun e w' => e = .returned (.bool true) ∧ Grow w w' := by
  have hmk : ∀ W, (Instr.makeSlice 98 (.int .i64 0) (.int .i64 0)).run Tryz.prog W = .ok (.slice (some ⟨W.heap.size, 0, none⟩) 0 0) (W.alloc (.cells #[] 168)) := fun _ => by kernel_rfl
  go_enter Tryz.func83, Tryz.ntmps83
  go_wp2
  go_loopw [3] (fun v wr => v = .int .i64 0 ∧ w = wr) (fun _ _ => 0)
  case atStart => exact ⟨rfl, rfl⟩
  case round =>
    obtain ⟨rfl, rfl⟩ := hrel
    go_wp2
    go_loopw [6] (fun v wr => v = .int .i64 0 ∧ (w.alloc (.cells #[] 168)) = wr) (fun _ _ => 0)
    case atStart => exact ⟨rfl, rfl⟩
    case round =>
      obtain ⟨rfl, rfl⟩ := hrel
      go_wp2
      go_loopw [9] (fun v wr => v = .int .i64 0 ∧ (w.alloc (.cells #[] 168)) = wr) (fun _ _ => 0)
      case atStart => exact ⟨rfl, rfl⟩
      case round =>
        obtain ⟨rfl, rfl⟩ := hrel
        go_wp2
        go_loopw [11] (fun v wr => v = .int .i64 0 ∧ (w.alloc (.cells #[] 168)) = wr) (fun _ _ => 0)
        case atStart => exact ⟨rfl, rfl⟩
        case round =>
          obtain ⟨rfl, rfl⟩ := hrel
          go_wp2
          go_loopw [14] (fun v wr => v = .int .i64 0 ∧ (w.alloc (.cells #[] 168)) = wr) (fun _ _ => 0)
          case atStart => exact ⟨rfl, rfl⟩
          case round =>
            obtain ⟨rfl, rfl⟩ := hrel
            go_wp2
            go_ret
            exact ⟨rfl, Grow.alloc _ _⟩
set_option maxRecDepth 100000 in
theorem flatInts_nil (w : World) : Calls Tryz.prog 84 #[.slice none 0 0] w fun e w' => e = .returned (.bool true) ∧ Grow w w' := by
  have hmk : ∀ W, (Instr.makeSlice 99 (.int .i64 0) (.int .i64 0)).run Tryz.prog W = .ok (.slice (some ⟨W.heap.size, 0, none⟩) 0 0) (W.alloc (.cells #[] 25)) := fun _ => by kernel_rfl
  go_enter Tryz.func84, Tryz.ntmps84
  go_wp2
  go_loopw [3] (fun v wr => v = .int .i64 0 ∧ w = wr) (fun _ _ => 0)
  case atStart => exact ⟨rfl, rfl⟩
  case round =>
    obtain ⟨rfl, rfl⟩ := hrel
    go_wp2
    go_loopw [6] (fun v wr => v = .int .i64 0 ∧ (w.alloc (.cells #[] 25)) = wr) (fun _ _ => 0)
    case atStart => exact ⟨rfl, rfl⟩
    case round =>
      obtain ⟨rfl, rfl⟩ := hrel
      go_wp2
      go_loopw [9] (fun v wr => v = .int .i64 0 ∧ (w.alloc (.cells #[] 25)) = wr) (fun _ _ => 0)
      case atStart => exact ⟨rfl, rfl⟩
      case round =>
        obtain ⟨rfl, rfl⟩ := hrel
        go_wp2
        go_loopw [11] (fun v wr => v = .int .i64 0 ∧ (w.alloc (.cells #[] 25)) = wr) (fun _ _ => 0)
        case atStart => exact ⟨rfl, rfl⟩
        case round =>
          obtain ⟨rfl, rfl⟩ := hrel
          go_wp2
          go_loopw [14] (fun v wr => v = .int .i64 0 ∧ (w.alloc (.cells #[] 25)) = wr) (fun _ _ => 0)
          case atStart => exact ⟨rfl, rfl⟩
          case round =>
            obtain ⟨rfl, rfl⟩ := hrel
            go_wp2
            go_ret
            exact ⟨rfl, Grow.alloc _ _⟩
set_option maxRecDepth 100000 in
theorem flatLongs_nil (w : World) : Calls Tryz.prog 85 #[.slice none 0 0] w fun e w' => e = .returned (.bool true) ∧ Grow w w' := by
  have hmk : ∀ W, (Instr.makeSlice 100 (.int .i64 0) (.int .i64 0)).run Tryz.prog W = .ok (.slice (some ⟨W.heap.size, 0, none⟩) 0 0) (W.alloc (.cells #[] 169)) := fun _ => by kernel_rfl
  go_enter Tryz.func85, Tryz.ntmps85
  go_wp2
  go_loopw [3] (fun v wr => v = .int .i64 0 ∧ w = wr) (fun _ _ => 0)
  case atStart => exact ⟨rfl, rfl⟩
  case round =>
    obtain ⟨rfl, rfl⟩ := hrel
    go_wp2
    go_loopw [6] (fun v wr => v = .int .i64 0 ∧ (w.alloc (.cells #[] 169)) = wr) (fun _ _ => 0)
    case atStart => exact ⟨rfl, rfl⟩
    case round =>
      obtain ⟨rfl, rfl⟩ := hrel
      go_wp2
      go_loopw [9] (fun v wr => v = .int .i64 0 ∧ (w.alloc (.cells #[] 169)) = wr) (fun _ _ => 0)
      case atStart => exact ⟨rfl, rfl⟩
      case round =>
        obtain ⟨rfl, rfl⟩ := hrel
        go_wp2
        go_loopw [11] (fun v wr => v = .int .i64 0 ∧ (w.alloc (.cells #[] 169)) = wr) (fun _ _ => 0)
        case atStart => exact ⟨rfl, rfl⟩
        case round =>
          obtain ⟨rfl, rfl⟩ := hrel
          go_wp2
          go_loopw [14] (fun v wr => v = .int .i64 0 ∧ (w.alloc (.cells #[] 169)) = wr) (fun _ _ => 0)
          case atStart => exact ⟨rfl, rfl⟩
          case round =>
            obtain ⟨rfl, rfl⟩ := hrel
            go_wp2
            go_ret
            exact ⟨rfl, Grow.alloc _ _⟩
set_option maxRecDepth 100000 in
theorem flatTexts_nil (w : World) : Calls Tryz.prog 86 #[.slice none 0 0] w fun e w' => e = .returned (.bool true) ∧ Grow w w' := by
  have hmk : ∀ W, (Instr.makeSlice 101 (.int .i64 0) (.int .i64 0)).run Tryz.prog W = .ok (.slice (some ⟨W.heap.size, 0, none⟩) 0 0) (W.alloc (.cells #[] 170)) := fun _ => by kernel_rfl
  go_enter Tryz.func86, Tryz.ntmps86
  go_wp2
  go_loopw [3] (fun v wr => v = .int .i64 0 ∧ w = wr) (fun _ _ => 0)
  case atStart => exact ⟨rfl, rfl⟩
  case round =>
    obtain ⟨rfl, rfl⟩ := hrel
    go_wp2
    go_loopw [6] (fun v wr => v = .int .i64 0 ∧ (w.alloc (.cells #[] 170)) = wr) (fun _ _ => 0)
    case atStart => exact ⟨rfl, rfl⟩
    case round =>
      obtain ⟨rfl, rfl⟩ := hrel
      go_wp2
      go_loopw [9] (fun v wr => v = .int .i64 0 ∧ (w.alloc (.cells #[] 170)) = wr) (fun _ _ => 0)
      case atStart => exact ⟨rfl, rfl⟩
      case round =>
        obtain ⟨rfl, rfl⟩ := hrel
        go_wp2
        go_loopw [11] (fun v wr => v = .int .i64 0 ∧ (w.alloc (.cells #[] 170)) = wr) (fun _ _ => 0)
        case atStart => exact ⟨rfl, rfl⟩
        case round =>
          obtain ⟨rfl, rfl⟩ := hrel
          go_wp2
          go_loopw [14] (fun v wr => v = .int .i64 0 ∧ (w.alloc (.cells #[] 170)) = wr) (fun _ _ => 0)
          case atStart => exact ⟨rfl, rfl⟩
          case round =>
            obtain ⟨rfl, rfl⟩ := hrel
            go_wp2
            go_ret
            exact ⟨rfl, Grow.alloc _ _⟩
set_option maxRecDepth 100000 in
theorem flatTruths_nil (w : World) : Calls Tryz.prog 88 #[.slice none 0 0] w fun e w' => e = .returned (.bool true) ∧ Grow w w' := by
  have hmk : ∀ W, (Instr.makeSlice 102 (.int .i64 0) (.int .i64 0)).run Tryz.prog W = .ok (.slice (some ⟨W.heap.size, 0, none⟩) 0 0) (W.alloc (.cells #[] 172)) := fun _ => by kernel_rfl
  go_enter Tryz.func88, Tryz.ntmps88
  go_wp2
  go_loopw [3] (fun v wr => v = .int .i64 0 ∧ w = wr) (fun _ _ => 0)
  case atStart => exact ⟨rfl, rfl⟩
  case round =>
    obtain ⟨rfl, rfl⟩ := hrel
    go_wp2
    go_loopw [6] (fun v wr => v = .int .i64 0 ∧ (w.alloc (.cells #[] 172)) = wr) (fun _ _ => 0)
    case atStart => exact ⟨rfl, rfl⟩
    case round =>
      obtain ⟨rfl, rfl⟩ := hrel
      go_wp2
      go_loopw [9] (fun v wr => v = .int .i64 0 ∧ (w.alloc (.cells #[] 172)) = wr) (fun _ _ => 0)
      case atStart => exact ⟨rfl, rfl⟩
      case round =>
        obtain ⟨rfl, rfl⟩ := hrel
        go_wp2
        go_loopw [11] (fun v wr => v = .int .i64 0 ∧ (w.alloc (.cells #[] 172)) = wr) (fun _ _ => 0)
        case atStart => exact ⟨rfl, rfl⟩
        case round =>
          obtain ⟨rfl, rfl⟩ := hrel
          go_wp2
          go_loopw [14] (fun v wr => v = .int .i64 0 ∧ (w.alloc (.cells #[] 172)) = wr) (fun _ _ => 0)
          case atStart => exact ⟨rfl, rfl⟩
          case round =>
            obtain ⟨rfl, rfl⟩ := hrel
            go_wp2
            go_ret
            exact ⟨rfl, Grow.alloc _ _⟩
set_option maxRecDepth 100000 in
theorem flatNodes_nil (w : World) : Calls Tryz.prog 89 #[.slice none 0 0] w fun e w' => e = .returned (.bool true) ∧ Grow w w' := by
  have hmk : ∀ W, (Instr.makeSlice 103 (.int .i64 0) (.int .i64 0)).run Tryz.prog W = .ok (.slice (some ⟨W.heap.size, 0, none⟩) 0 0) (W.alloc (.cells #[] 173)) := fun _ => by kernel_rfl
  go_enter Tryz.func89, Tryz.ntmps89
  go_wp2
  go_loopw [3] (fun v wr => v = .int .i64 0 ∧ w = wr) (fun _ _ => 0)
  case atStart => exact ⟨rfl, rfl⟩
  case round =>
    obtain ⟨rfl, rfl⟩ := hrel
    go_wp2
    go_loopw [6] (fun v wr => v = .int .i64 0 ∧ (w.alloc (.cells #[] 173)) = wr) (fun _ _ => 0)
    case atStart => exact ⟨rfl, rfl⟩
    case round =>
      obtain ⟨rfl, rfl⟩ := hrel
      go_wp2
      go_loopw [9] (fun v wr => v = .int .i64 0 ∧ (w.alloc (.cells #[] 173)) = wr) (fun _ _ => 0)
      case atStart => exact ⟨rfl, rfl⟩
      case round =>
        obtain ⟨rfl, rfl⟩ := hrel
        go_wp2
        go_loopw [11] (fun v wr => v = .int .i64 0 ∧ (w.alloc (.cells #[] 173)) = wr) (fun _ _ => 0)
        case atStart => exact ⟨rfl, rfl⟩
        case round =>
          obtain ⟨rfl, rfl⟩ := hrel
          go_wp2
          go_loopw [14] (fun v wr => v = .int .i64 0 ∧ (w.alloc (.cells #[] 173)) = wr) (fun _ _ => 0)
          case atStart => exact ⟨rfl, rfl⟩
          case round =>
            obtain ⟨rfl, rfl⟩ := hrel
            go_wp2
            go_ret
            exact ⟨rfl, Grow.alloc _ _⟩
set_option maxRecDepth 100000 in
theorem flatInsts_nil (w : World) : Calls Tryz.prog 90 #[.slice none 0 0] w fun e w' => e = .returned (.bool true) ∧ Grow w w' := by
  have hmk : ∀ W, (Instr.makeSlice 104 (.int .i64 0) (.int .i64 0)).run Tryz.prog W = .ok (.slice (some ⟨W.heap.size, 0, none⟩) 0 0) (W.alloc (.cells #[] 181)) := fun _ => by kernel_rfl
  go_enter Tryz.func90, Tryz.ntmps90
  go_wp2
  go_loopw [3] (fun v wr => v = .int .i64 0 ∧ w = wr) (fun _ _ => 0)
  case atStart => exact ⟨rfl, rfl⟩
  case round =>
    obtain ⟨rfl, rfl⟩ := hrel
    go_wp2
    go_loopw [6] (fun v wr => v = .int .i64 0 ∧ (w.alloc (.cells #[] 181)) = wr) (fun _ _ => 0)
    case atStart => exact ⟨rfl, rfl⟩
    case round =>
      obtain ⟨rfl, rfl⟩ := hrel
      go_wp2
      go_loopw [9] (fun v wr => v = .int .i64 0 ∧ (w.alloc (.cells #[] 181)) = wr) (fun _ _ => 0)
      case atStart => exact ⟨rfl, rfl⟩
      case round =>
        obtain ⟨rfl, rfl⟩ := hrel
        go_wp2
        go_loopw [11] (fun v wr => v = .int .i64 0 ∧ (w.alloc (.cells #[] 181)) = wr) (fun _ _ => 0)
        case atStart => exact ⟨rfl, rfl⟩
        case round =>
          obtain ⟨rfl, rfl⟩ := hrel
          go_wp2
          go_loopw [14] (fun v wr => v = .int .i64 0 ∧ (w.alloc (.cells #[] 181)) = wr) (fun _ _ => 0)
          case atStart => exact ⟨rfl, rfl⟩
          case round =>
            obtain ⟨rfl, rfl⟩ := hrel
            go_wp2
            go_ret
            exact ⟨rfl, Grow.alloc _ _⟩
set_option maxRecDepth 100000 in
theorem flatQueries_nil (w : World) : Calls Tryz.prog 91 #[.slice none 0 0] w fun e w' => e = .returned (.bool true) ∧ Grow w w' := by
  have hmk : ∀ W, (Instr.makeSlice 105 (.int .i64 0) (.int .i64 0)).run Tryz.prog W = .ok (.slice (some ⟨W.heap.size, 0, none⟩) 0 0) (W.alloc (.cells #[] 186)) := fun _ => by kernel_rfl
  go_enter Tryz.func91, Tryz.ntmps91
  go_wp2
  go_loopw [3] (fun v wr => v = .int .i64 0 ∧ w = wr) (fun _ _ => 0)
  case atStart => exact ⟨rfl, rfl⟩
  case round =>
    obtain ⟨rfl, rfl⟩ := hrel
    go_wp2
    go_loopw [6] (fun v wr => v = .int .i64 0 ∧ (w.alloc (.cells #[] 186)) = wr) (fun _ _ => 0)
    case atStart => exact ⟨rfl, rfl⟩
    case round =>
      obtain ⟨rfl, rfl⟩ := hrel
      go_wp2
      go_loopw [9] (fun v wr => v = .int .i64 0 ∧ (w.alloc (.cells #[] 186)) = wr) (fun _ _ => 0)
      case atStart => exact ⟨rfl, rfl⟩
      case round =>
        obtain ⟨rfl, rfl⟩ := hrel
        go_wp2
        go_loopw [11] (fun v wr => v = .int .i64 0 ∧ (w.alloc (.cells #[] 186)) = wr) (fun _ _ => 0)
        case atStart => exact ⟨rfl, rfl⟩
        case round =>
          obtain ⟨rfl, rfl⟩ := hrel
          go_wp2
          go_loopw [14] (fun v wr => v = .int .i64 0 ∧ (w.alloc (.cells #[] 186)) = wr) (fun _ _ => 0)
          case atStart => exact ⟨rfl, rfl⟩
          case round =>
            obtain ⟨rfl, rfl⟩ := hrel
            go_wp2
            go_ret
            exact ⟨rfl, Grow.alloc _ _⟩
set_option maxRecDepth 100000 in
theorem flatFiles_nil (w : World) : Calls Tryz.prog 92 #[.slice none 0 0] w fun e w' => e = .returned (.bool true) ∧ Grow w w' := by
  have hmk : ∀ W, (Instr.makeSlice 106 (.int .i64 0) (.int .i64 0)).run Tryz.prog W = .ok (.slice (some ⟨W.heap.size, 0, none⟩) 0 0) (W.alloc (.cells #[] 192)) := fun _ => by kernel_rfl
  go_enter Tryz.func92, Tryz.ntmps92
  go_wp2
  go_loopw [3] (fun v wr => v = .int .i64 0 ∧ w = wr) (fun _ _ => 0)
  case atStart => exact ⟨rfl, rfl⟩
  case round =>
    obtain ⟨rfl, rfl⟩ := hrel
    go_wp2
    go_loopw [6] (fun v wr => v = .int .i64 0 ∧ (w.alloc (.cells #[] 192)) = wr) (fun _ _ => 0)
    case atStart => exact ⟨rfl, rfl⟩
    case round =>
      obtain ⟨rfl, rfl⟩ := hrel
      go_wp2
      go_loopw [9] (fun v wr => v = .int .i64 0 ∧ (w.alloc (.cells #[] 192)) = wr) (fun _ _ => 0)
      case atStart => exact ⟨rfl, rfl⟩
      case round =>
        obtain ⟨rfl, rfl⟩ := hrel
        go_wp2
        go_loopw [11] (fun v wr => v = .int .i64 0 ∧ (w.alloc (.cells #[] 192)) = wr) (fun _ _ => 0)
        case atStart => exact ⟨rfl, rfl⟩
        case round =>
          obtain ⟨rfl, rfl⟩ := hrel
          go_wp2
          go_loopw [14] (fun v wr => v = .int .i64 0 ∧ (w.alloc (.cells #[] 192)) = wr) (fun _ _ => 0)
          case atStart => exact ⟨rfl, rfl⟩
          case round =>
            obtain ⟨rfl, rfl⟩ := hrel
            go_wp2
            go_ret
            exact ⟨rfl, Grow.alloc _ _⟩
set_option maxRecDepth 100000 in
theorem flatDocs_nil (w : World) : Calls Tryz.prog 93 #[.slice none 0 0] w fun e w' => e = .returned (.bool true) ∧ Grow w w' := by
  have hmk : ∀ W, (Instr.makeSlice 107 (.int .i64 0) (.int .i64 0)).run Tryz.prog W = .ok (.slice (some ⟨W.heap.size, 0, none⟩) 0 0) (W.alloc (.cells #[] 197)) := fun _ => by kernel_rfl
  go_enter Tryz.func93, Tryz.ntmps93
  go_wp2
  go_loopw [3] (fun v wr => v = .int .i64 0 ∧ w = wr) (fun _ _ => 0)
  case atStart => exact ⟨rfl, rfl⟩
  case round =>
    obtain ⟨rfl, rfl⟩ := hrel
    go_wp2
    go_loopw [6] (fun v wr => v = .int .i64 0 ∧ (w.alloc (.cells #[] 197)) = wr) (fun _ _ => 0)
    case atStart => exact ⟨rfl, rfl⟩
    case round =>
      obtain ⟨rfl, rfl⟩ := hrel
      go_wp2
      go_loopw [9] (fun v wr => v = .int .i64 0 ∧ (w.alloc (.cells #[] 197)) = wr) (fun _ _ => 0)
      case atStart => exact ⟨rfl, rfl⟩
      case round =>
        obtain ⟨rfl, rfl⟩ := hrel
        go_wp2
        go_loopw [11] (fun v wr => v = .int .i64 0 ∧ (w.alloc (.cells #[] 197)) = wr) (fun _ _ => 0)
        case atStart => exact ⟨rfl, rfl⟩
        case round =>
          obtain ⟨rfl, rfl⟩ := hrel
          go_wp2
          go_loopw [14] (fun v wr => v = .int .i64 0 ∧ (w.alloc (.cells #[] 197)) = wr) (fun _ _ => 0)
          case atStart => exact ⟨rfl, rfl⟩
          case round =>
            obtain ⟨rfl, rfl⟩ := hrel
            go_wp2
            go_ret
            exact ⟨rfl, Grow.alloc _ _⟩
set_option maxRecDepth 100000 in
theorem flatPlaces_nil (w : World) : Calls Tryz.prog 94 #[.slice none 0 0] w fun e w' => e = .returned (.bool true) ∧ Grow w w' := by
  have hmk : ∀ W, (Instr.makeSlice 108 (.int .i64 0) (.int .i64 0)).run Tryz.prog W = .ok (.slice (some ⟨W.heap.size, 0, none⟩) 0 0) (W.alloc (.cells #[] 201)) := fun _ => by kernel_rfl
  go_enter Tryz.func94, Tryz.ntmps94
  go_wp2
  go_loopw [3] (fun v wr => v = .int .i64 0 ∧ w = wr) (fun _ _ => 0)
  case atStart => exact ⟨rfl, rfl⟩
  case round =>
    obtain ⟨rfl, rfl⟩ := hrel
    go_wp2
    go_loopw [6] (fun v wr => v = .int .i64 0 ∧ (w.alloc (.cells #[] 201)) = wr) (fun _ _ => 0)
    case atStart => exact ⟨rfl, rfl⟩
    case round =>
      obtain ⟨rfl, rfl⟩ := hrel
      go_wp2
      go_loopw [9] (fun v wr => v = .int .i64 0 ∧ (w.alloc (.cells #[] 201)) = wr) (fun _ _ => 0)
      case atStart => exact ⟨rfl, rfl⟩
      case round =>
        obtain ⟨rfl, rfl⟩ := hrel
        go_wp2
        go_loopw [11] (fun v wr => v = .int .i64 0 ∧ (w.alloc (.cells #[] 201)) = wr) (fun _ _ => 0)
        case atStart => exact ⟨rfl, rfl⟩
        case round =>
          obtain ⟨rfl, rfl⟩ := hrel
          go_wp2
          go_loopw [14] (fun v wr => v = .int .i64 0 ∧ (w.alloc (.cells #[] 201)) = wr) (fun _ _ => 0)
          case atStart => exact ⟨rfl, rfl⟩
          case round =>
            obtain ⟨rfl, rfl⟩ := hrel
            go_wp2
            go_ret
            exact ⟨rfl, Grow.alloc _ _⟩
set_option maxRecDepth 100000 in
theorem flatPostings_nil (w : World) : Calls Tryz.prog 95 #[.slice none 0 0] w fun e w' => e = .returned (.bool true) ∧ Grow w w' := by
  have hmk : ∀ W, (Instr.makeSlice 109 (.int .i64 0) (.int .i64 0)).run Tryz.prog W = .ok (.slice (some ⟨W.heap.size, 0, none⟩) 0 0) (W.alloc (.cells #[] 205)) := fun _ => by kernel_rfl
  go_enter Tryz.func95, Tryz.ntmps95
  go_wp2
  go_loopw [3] (fun v wr => v = .int .i64 0 ∧ w = wr) (fun _ _ => 0)
  case atStart => exact ⟨rfl, rfl⟩
  case round =>
    obtain ⟨rfl, rfl⟩ := hrel
    go_wp2
    go_loopw [6] (fun v wr => v = .int .i64 0 ∧ (w.alloc (.cells #[] 205)) = wr) (fun _ _ => 0)
    case atStart => exact ⟨rfl, rfl⟩
    case round =>
      obtain ⟨rfl, rfl⟩ := hrel
      go_wp2
      go_loopw [9] (fun v wr => v = .int .i64 0 ∧ (w.alloc (.cells #[] 205)) = wr) (fun _ _ => 0)
      case atStart => exact ⟨rfl, rfl⟩
      case round =>
        obtain ⟨rfl, rfl⟩ := hrel
        go_wp2
        go_loopw [11] (fun v wr => v = .int .i64 0 ∧ (w.alloc (.cells #[] 205)) = wr) (fun _ _ => 0)
        case atStart => exact ⟨rfl, rfl⟩
        case round =>
          obtain ⟨rfl, rfl⟩ := hrel
          go_wp2
          go_loopw [14] (fun v wr => v = .int .i64 0 ∧ (w.alloc (.cells #[] 205)) = wr) (fun _ _ => 0)
          case atStart => exact ⟨rfl, rfl⟩
          case round =>
            obtain ⟨rfl, rfl⟩ := hrel
            go_wp2
            go_ret
            exact ⟨rfl, Grow.alloc _ _⟩
set_option maxRecDepth 100000 in
theorem flatShardRefs_nil (w : World) : Calls Tryz.prog 96 #[.slice none 0 0] w fun e w' => e = .returned (.bool true) ∧ Grow w w' := by
  have hmk : ∀ W, (Instr.makeSlice 110 (.int .i64 0) (.int .i64 0)).run Tryz.prog W = .ok (.slice (some ⟨W.heap.size, 0, none⟩) 0 0) (W.alloc (.cells #[] 210)) := fun _ => by kernel_rfl
  go_enter Tryz.func96, Tryz.ntmps96
  go_wp2
  go_loopw [3] (fun v wr => v = .int .i64 0 ∧ w = wr) (fun _ _ => 0)
  case atStart => exact ⟨rfl, rfl⟩
  case round =>
    obtain ⟨rfl, rfl⟩ := hrel
    go_wp2
    go_loopw [6] (fun v wr => v = .int .i64 0 ∧ (w.alloc (.cells #[] 210)) = wr) (fun _ _ => 0)
    case atStart => exact ⟨rfl, rfl⟩
    case round =>
      obtain ⟨rfl, rfl⟩ := hrel
      go_wp2
      go_loopw [9] (fun v wr => v = .int .i64 0 ∧ (w.alloc (.cells #[] 210)) = wr) (fun _ _ => 0)
      case atStart => exact ⟨rfl, rfl⟩
      case round =>
        obtain ⟨rfl, rfl⟩ := hrel
        go_wp2
        go_loopw [11] (fun v wr => v = .int .i64 0 ∧ (w.alloc (.cells #[] 210)) = wr) (fun _ _ => 0)
        case atStart => exact ⟨rfl, rfl⟩
        case round =>
          obtain ⟨rfl, rfl⟩ := hrel
          go_wp2
          go_loopw [14] (fun v wr => v = .int .i64 0 ∧ (w.alloc (.cells #[] 210)) = wr) (fun _ _ => 0)
          case atStart => exact ⟨rfl, rfl⟩
          case round =>
            obtain ⟨rfl, rfl⟩ := hrel
            go_wp2
            go_ret
            exact ⟨rfl, Grow.alloc _ _⟩
set_option maxRecDepth 100000 in
theorem flatManifests_nil (w : World) : Calls Tryz.prog 97 #[.slice none 0 0] w fun e w' => e = .returned (.bool true) ∧ Grow w w' := by
  have hmk : ∀ W, (Instr.makeSlice 111 (.int .i64 0) (.int .i64 0)).run Tryz.prog W = .ok (.slice (some ⟨W.heap.size, 0, none⟩) 0 0) (W.alloc (.cells #[] 215)) := fun _ => by kernel_rfl
  go_enter Tryz.func97, Tryz.ntmps97
  go_wp2
  go_loopw [3] (fun v wr => v = .int .i64 0 ∧ w = wr) (fun _ _ => 0)
  case atStart => exact ⟨rfl, rfl⟩
  case round =>
    obtain ⟨rfl, rfl⟩ := hrel
    go_wp2
    go_loopw [6] (fun v wr => v = .int .i64 0 ∧ (w.alloc (.cells #[] 215)) = wr) (fun _ _ => 0)
    case atStart => exact ⟨rfl, rfl⟩
    case round =>
      obtain ⟨rfl, rfl⟩ := hrel
      go_wp2
      go_loopw [9] (fun v wr => v = .int .i64 0 ∧ (w.alloc (.cells #[] 215)) = wr) (fun _ _ => 0)
      case atStart => exact ⟨rfl, rfl⟩
      case round =>
        obtain ⟨rfl, rfl⟩ := hrel
        go_wp2
        go_loopw [11] (fun v wr => v = .int .i64 0 ∧ (w.alloc (.cells #[] 215)) = wr) (fun _ _ => 0)
        case atStart => exact ⟨rfl, rfl⟩
        case round =>
          obtain ⟨rfl, rfl⟩ := hrel
          go_wp2
          go_loopw [14] (fun v wr => v = .int .i64 0 ∧ (w.alloc (.cells #[] 215)) = wr) (fun _ _ => 0)
          case atStart => exact ⟨rfl, rfl⟩
          case round =>
            obtain ⟨rfl, rfl⟩ := hrel
            go_wp2
            go_ret
            exact ⟨rfl, Grow.alloc _ _⟩
set_option maxRecDepth 100000 in
theorem flatAsks_nil (w : World) : Calls Tryz.prog 98 #[.slice none 0 0] w fun e w' => e = .returned (.bool true) ∧ Grow w w' := by
  have hmk : ∀ W, (Instr.makeSlice 112 (.int .i64 0) (.int .i64 0)).run Tryz.prog W = .ok (.slice (some ⟨W.heap.size, 0, none⟩) 0 0) (W.alloc (.cells #[] 220)) := fun _ => by kernel_rfl
  go_enter Tryz.func98, Tryz.ntmps98
  go_wp2
  go_loopw [3] (fun v wr => v = .int .i64 0 ∧ w = wr) (fun _ _ => 0)
  case atStart => exact ⟨rfl, rfl⟩
  case round =>
    obtain ⟨rfl, rfl⟩ := hrel
    go_wp2
    go_loopw [6] (fun v wr => v = .int .i64 0 ∧ (w.alloc (.cells #[] 220)) = wr) (fun _ _ => 0)
    case atStart => exact ⟨rfl, rfl⟩
    case round =>
      obtain ⟨rfl, rfl⟩ := hrel
      go_wp2
      go_loopw [9] (fun v wr => v = .int .i64 0 ∧ (w.alloc (.cells #[] 220)) = wr) (fun _ _ => 0)
      case atStart => exact ⟨rfl, rfl⟩
      case round =>
        obtain ⟨rfl, rfl⟩ := hrel
        go_wp2
        go_loopw [11] (fun v wr => v = .int .i64 0 ∧ (w.alloc (.cells #[] 220)) = wr) (fun _ _ => 0)
        case atStart => exact ⟨rfl, rfl⟩
        case round =>
          obtain ⟨rfl, rfl⟩ := hrel
          go_wp2
          go_loopw [14] (fun v wr => v = .int .i64 0 ∧ (w.alloc (.cells #[] 220)) = wr) (fun _ _ => 0)
          case atStart => exact ⟨rfl, rfl⟩
          case round =>
            obtain ⟨rfl, rfl⟩ := hrel
            go_wp2
            go_ret
            exact ⟨rfl, Grow.alloc _ _⟩
set_option maxRecDepth 100000 in
theorem flatHits_nil (w : World) : Calls Tryz.prog 99 #[.slice none 0 0] w fun e w' => e = .returned (.bool true) ∧ Grow w w' := by
  have hmk : ∀ W, (Instr.makeSlice 113 (.int .i64 0) (.int .i64 0)).run Tryz.prog W = .ok (.slice (some ⟨W.heap.size, 0, none⟩) 0 0) (W.alloc (.cells #[] 227)) := fun _ => by kernel_rfl
  go_enter Tryz.func99, Tryz.ntmps99
  go_wp2
  go_loopw [3] (fun v wr => v = .int .i64 0 ∧ w = wr) (fun _ _ => 0)
  case atStart => exact ⟨rfl, rfl⟩
  case round =>
    obtain ⟨rfl, rfl⟩ := hrel
    go_wp2
    go_loopw [6] (fun v wr => v = .int .i64 0 ∧ (w.alloc (.cells #[] 227)) = wr) (fun _ _ => 0)
    case atStart => exact ⟨rfl, rfl⟩
    case round =>
      obtain ⟨rfl, rfl⟩ := hrel
      go_wp2
      go_loopw [9] (fun v wr => v = .int .i64 0 ∧ (w.alloc (.cells #[] 227)) = wr) (fun _ _ => 0)
      case atStart => exact ⟨rfl, rfl⟩
      case round =>
        obtain ⟨rfl, rfl⟩ := hrel
        go_wp2
        go_loopw [11] (fun v wr => v = .int .i64 0 ∧ (w.alloc (.cells #[] 227)) = wr) (fun _ _ => 0)
        case atStart => exact ⟨rfl, rfl⟩
        case round =>
          obtain ⟨rfl, rfl⟩ := hrel
          go_wp2
          go_loopw [14] (fun v wr => v = .int .i64 0 ∧ (w.alloc (.cells #[] 227)) = wr) (fun _ _ => 0)
          case atStart => exact ⟨rfl, rfl⟩
          case round =>
            obtain ⟨rfl, rfl⟩ := hrel
            go_wp2
            go_ret
            exact ⟨rfl, Grow.alloc _ _⟩
set_option maxRecDepth 100000 in
theorem flatAnswers_nil (w : World) : Calls Tryz.prog 100 #[.slice none 0 0] w fun e w' => e = .returned (.bool true) ∧ Grow w w' := by
  have hmk : ∀ W, (Instr.makeSlice 114 (.int .i64 0) (.int .i64 0)).run Tryz.prog W = .ok (.slice (some ⟨W.heap.size, 0, none⟩) 0 0) (W.alloc (.cells #[] 231)) := fun _ => by kernel_rfl
  go_enter Tryz.func100, Tryz.ntmps100
  go_wp2
  go_loopw [3] (fun v wr => v = .int .i64 0 ∧ w = wr) (fun _ _ => 0)
  case atStart => exact ⟨rfl, rfl⟩
  case round =>
    obtain ⟨rfl, rfl⟩ := hrel
    go_wp2
    go_loopw [6] (fun v wr => v = .int .i64 0 ∧ (w.alloc (.cells #[] 231)) = wr) (fun _ _ => 0)
    case atStart => exact ⟨rfl, rfl⟩
    case round =>
      obtain ⟨rfl, rfl⟩ := hrel
      go_wp2
      go_loopw [9] (fun v wr => v = .int .i64 0 ∧ (w.alloc (.cells #[] 231)) = wr) (fun _ _ => 0)
      case atStart => exact ⟨rfl, rfl⟩
      case round =>
        obtain ⟨rfl, rfl⟩ := hrel
        go_wp2
        go_loopw [11] (fun v wr => v = .int .i64 0 ∧ (w.alloc (.cells #[] 231)) = wr) (fun _ _ => 0)
        case atStart => exact ⟨rfl, rfl⟩
        case round =>
          obtain ⟨rfl, rfl⟩ := hrel
          go_wp2
          go_loopw [14] (fun v wr => v = .int .i64 0 ∧ (w.alloc (.cells #[] 231)) = wr) (fun _ _ => 0)
          case atStart => exact ⟨rfl, rfl⟩
          case round =>
            obtain ⟨rfl, rfl⟩ := hrel
            go_wp2
            go_ret
            exact ⟨rfl, Grow.alloc _ _⟩
set_option maxRecDepth 100000 in
theorem flatParts_nil (w : World) : Calls Tryz.prog 101 #[.slice none 0 0] w fun e w' => e = .returned (.bool true) ∧ Grow w w' := by
  have hmk : ∀ W, (Instr.makeSlice 60 (.int .i64 0) (.int .i64 0)).run Tryz.prog W = .ok (.slice (some ⟨W.heap.size, 0, none⟩) 0 0) (W.alloc (.cells #[] 43)) := fun _ => by kernel_rfl
  go_enter Tryz.func101, Tryz.ntmps101
  go_wp2
  go_loopw [3] (fun v wr => v = .int .i64 0 ∧ w = wr) (fun _ _ => 0)
  case atStart => exact ⟨rfl, rfl⟩
  case round =>
    obtain ⟨rfl, rfl⟩ := hrel
    go_wp2
    go_loopw [6] (fun v wr => v = .int .i64 0 ∧ (w.alloc (.cells #[] 43)) = wr) (fun _ _ => 0)
    case atStart => exact ⟨rfl, rfl⟩
    case round =>
      obtain ⟨rfl, rfl⟩ := hrel
      go_wp2
      go_loopw [9] (fun v wr => v = .int .i64 0 ∧ (w.alloc (.cells #[] 43)) = wr) (fun _ _ => 0)
      case atStart => exact ⟨rfl, rfl⟩
      case round =>
        obtain ⟨rfl, rfl⟩ := hrel
        go_wp2
        go_loopw [11] (fun v wr => v = .int .i64 0 ∧ (w.alloc (.cells #[] 43)) = wr) (fun _ _ => 0)
        case atStart => exact ⟨rfl, rfl⟩
        case round =>
          obtain ⟨rfl, rfl⟩ := hrel
          go_wp2
          go_loopw [14] (fun v wr => v = .int .i64 0 ∧ (w.alloc (.cells #[] 43)) = wr) (fun _ _ => 0)
          case atStart => exact ⟨rfl, rfl⟩
          case round =>
            obtain ⟨rfl, rfl⟩ := hrel
            go_wp2
            go_ret
            exact ⟨rfl, Grow.alloc _ _⟩
set_option maxRecDepth 100000 in
theorem flatChanges_nil (w : World) : Calls Tryz.prog 102 #[.slice none 0 0] w fun e w' => e = .returned (.bool true) ∧ Grow w w' := by
  have hmk : ∀ W, (Instr.makeSlice 115 (.int .i64 0) (.int .i64 0)).run Tryz.prog W = .ok (.slice (some ⟨W.heap.size, 0, none⟩) 0 0) (W.alloc (.cells #[] 236)) := fun _ => by kernel_rfl
  go_enter Tryz.func102, Tryz.ntmps102
  go_wp2
  go_loopw [3] (fun v wr => v = .int .i64 0 ∧ w = wr) (fun _ _ => 0)
  case atStart => exact ⟨rfl, rfl⟩
  case round =>
    obtain ⟨rfl, rfl⟩ := hrel
    go_wp2
    go_loopw [6] (fun v wr => v = .int .i64 0 ∧ (w.alloc (.cells #[] 236)) = wr) (fun _ _ => 0)
    case atStart => exact ⟨rfl, rfl⟩
    case round =>
      obtain ⟨rfl, rfl⟩ := hrel
      go_wp2
      go_loopw [9] (fun v wr => v = .int .i64 0 ∧ (w.alloc (.cells #[] 236)) = wr) (fun _ _ => 0)
      case atStart => exact ⟨rfl, rfl⟩
      case round =>
        obtain ⟨rfl, rfl⟩ := hrel
        go_wp2
        go_loopw [11] (fun v wr => v = .int .i64 0 ∧ (w.alloc (.cells #[] 236)) = wr) (fun _ _ => 0)
        case atStart => exact ⟨rfl, rfl⟩
        case round =>
          obtain ⟨rfl, rfl⟩ := hrel
          go_wp2
          go_loopw [14] (fun v wr => v = .int .i64 0 ∧ (w.alloc (.cells #[] 236)) = wr) (fun _ _ => 0)
          case atStart => exact ⟨rfl, rfl⟩
          case round =>
            obtain ⟨rfl, rfl⟩ := hrel
            go_wp2
            go_ret
            exact ⟨rfl, Grow.alloc _ _⟩
end Go.Proofs.YtcjbeaohmgfgoaaGreat
