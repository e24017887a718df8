/-
  The walks of crc's Sum, Update, Table.
-/
import Derived.Test.YtcjbeaohmgfgoaaCrcUpdate
namespace Go.Proofs.Ytcjbeaohmgfgoaa
open Go.RowKit CrcM

theorem info_table : (Try.prog.info? 74).map (·.size) = some tabV.size := by rw [tabV_size]; kernel_rfl

theorem update_zero (w : World) (T B : Nat) (A : Option Addr) (n c : Nat) (ls : List (List UInt8)) (hT : Blk w T 74 tabV) (hR : RowsAt w B A n ls) (hn : n ≤ maxLen) :
    Calls Try.prog 47 #[.pointer (some ⟨T, 0, none⟩), .int .u32 0, .slice A n c] w fun e w' => e = .returned (.int .u32 ((sum ls.flatten).toNat : Int)) ∧ ∃ q, w.drewN q = w' :=
  update_any w T B 0#32 A n c ls hT hR hn

theorem below_drewN {B : Nat} {a w : World} (h : Below B a w) (n : Nat) : Below B a (w.drewN n) := ⟨h.os, h.tape, h.output, h.size, h.block⟩

set_option maxRecDepth 100000 in
theorem Sum_any (w : World) (B : Nat) (A : Option Addr) (n c : Nat) (ls : List (List UInt8)) (hR : RowsAt w B A n ls) (hB : B ≤ w.heap.size) (hn : n ≤ maxLen) :
    Calls Try.prog 13 #[.slice A n c] w fun e w' => e = .returned (.int .u32 ((sum ls.flatten).toNat : Int)) ∧ Below w.heap.size w w' := by
  go_enter Try.func13, Try.ntmps13
  go_wp2_with (first | (go_at_call 46; refine (made_any _).mono ?_; rintro e w1 ⟨rfl, hb1⟩) | (refine wpList_store_row rfl 74 _ _ rfl w1.heap.size tabV rfl rfl 74 Try.zeroCells74 (Blk.new _ _ _) info_table (by rw [tabV_size]; exact zero_table.1) tabV_one ?_) | (go_at_call 47; refine (update_zero _ w1.heap.size B A n c ls ((Blk.new w1 74 Try.zeroCells74).setRow tabV) (hR.below ((below_setRow1 (hb1.alloc hb1.size _) hb1.size _).mono hB)) hn).mono ?_; rintro e w2 ⟨rfl, q, rfl⟩))
  go_ret
  exact ⟨rfl, below_drewN (below_setRow1 (hb1.alloc hb1.size _) hb1.size _) q⟩

/-- the sum of one part, as a call 'Sum(b)' makes it: the part lies in a row that was just made -/
theorem Sum_new (W : World) (B : Nat) (A : Option Addr) (n c : Nat) (l : List UInt8) (hR : BytesAt W B A n l) (hB : B ≤ W.heap.size) (hnc : n ≤ c) (hc : c ≤ maxLen) :
    Calls Try.prog 13 #[.slice (some ⟨W.heap.size, 0, none⟩) 1 1] (W.alloc (.cells #[.slice A n c] 22)) fun e w' => e = .returned (.int .u32 ((sum l).toNat : Int)) ∧ Below W.heap.size W w' := by
  have hb : Below W.heap.size W (W.alloc (.cells #[.slice A n c] 22)) := (Below.refl _ _).alloc (Nat.le_refl _) _
  refine (Sum_any _ (W.heap.size + 1) _ 1 1 [l] (RowsAt.one (Blk.new W 22 #[.slice A n c]).cells (by omega) ((hR.below (hb.mono hB)).more (by omega)) hnc hc) (by simp) (by unfold maxLen; omega)).mono ?_
  rintro e w2 ⟨rfl, h2⟩
  exact ⟨by simp, hb.trans (h2.mono (by simp))⟩

set_option maxRecDepth 100000 in
theorem Update_any (w : World) (B : Nat) (s : W32) (A : Option Addr) (n c : Nat) (l : List UInt8) (hR : BytesAt w B A n l) (hB : B ≤ w.heap.size) (hnc : n ≤ c) (hc : c ≤ maxLen) :
    Calls Try.prog 15 #[.int .u32 (s.toNat : Int), .slice A n c] w fun e w' => e = .returned (.int .u32 ((upd s l).toNat : Int)) ∧ Below w.heap.size w w' := by
  go_enter Try.func15, Try.ntmps15
  go_wp2_with (first | (go_at_call 46; refine (made_any _).mono ?_; rintro e w1 ⟨rfl, hb1⟩) | (refine wpList_store_row rfl 74 _ _ rfl w1.heap.size tabV rfl rfl 74 Try.zeroCells74 (Blk.new _ _ _) info_table (by rw [tabV_size]; exact zero_table.1) tabV_one ?_))
  have hb2 : Below w.heap.size w ((w1.alloc (.cells Try.zeroCells74 74)).setRow w1.heap.size tabV) := below_setRow1 (hb1.alloc hb1.size _) hb1.size _
  have hT : Blk ((w1.alloc (.cells Try.zeroCells74 74)).setRow w1.heap.size tabV) w1.heap.size 74 tabV := (Blk.new w1 74 Try.zeroCells74).setRow tabV
  have hz : ((w1.alloc (.cells Try.zeroCells74 74)).setRow w1.heap.size tabV).heap.size = w1.heap.size + 1 := by simp
  generalize (w1.alloc (.cells Try.zeroCells74 74)).setRow w1.heap.size tabV = W2 at *
  have hb3 : Below w.heap.size w (W2.alloc (.cells #[.slice A n c] 22)) := hb2.alloc hb2.size _
  have hg : Blk (W2.alloc (.cells #[.slice A n c] 22)) (w1.heap.size + 1) 22 #[.slice A n c] := by rw [← hz]; exact Blk.new _ _ _
  have Hz := Lib.hid hz
  clear hz
  refine (update_any _ w1.heap.size _ s _ 1 1 [l] (hT.alloc _) (RowsAt.one (B := w1.heap.size + 2) hg.cells (by omega) ((hR.below (hb3.mono hB)).more (by have := hb1.size; omega)) hnc hc) (by unfold maxLen; omega)).mono ?_
  rintro e w2 ⟨rfl, q, rfl⟩
  go_wp2
  go_ret
  exact ⟨by simp, below_drewN hb3 q⟩

set_option maxRecDepth 100000 in
theorem Table_any (w : World) : Calls Try.prog 21 #[] w fun e w' => e = .returned (.agg tabV) ∧ Below w.heap.size w w' := by
  have hi : (Try.prog.info? 36).map (·.size) = some tabV.size := by rw [tabV_size]; kernel_rfl
  have hz : Try.zeroCells36.size = tabV.size := by rw [tabV_size]; kernel_rfl
  go_enter Try.func21, Try.ntmps21
  go_wp2_with (first | (go_at_call 46; refine (made_any _).mono ?_; rintro e w1 ⟨rfl, hb1⟩) | (refine wpList_store_row rfl 36 _ _ rfl w.heap.size tabV rfl rfl 36 Try.zeroCells36 ((Blk.new _ _ _).below hb1 (by simp)) hi hz tabV_one ?_))
  have ht : Blk (w1.setRow w.heap.size tabV) w.heap.size 36 tabV := ((Blk.new w 36 Try.zeroCells36).below hb1 (by simp)).setRow tabV
  exact bodyPost_ret (results_cell_row rfl _ _ _ _ _ _ _ rfl ht Try.underlying36 rfl hi) rfl ⟨rfl, below_setRow1 (((Below.refl _ _).alloc (Nat.le_refl _) _).trans (hb1.mono (by simp))) (Nat.le_refl _) _⟩
end Go.Proofs.Ytcjbeaohmgfgoaa
