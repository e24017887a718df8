/-
  The walks of crc's Sum, Update, Table.
-/
import Derived.Test.YtbbjeokecgnfpaaGreatCrcUpdate
namespace Go.Proofs.YtbbjeokecgnfpaaGreat
open Go.RowKit CrcM

theorem info_table : (Tryz.prog.info? 108).map (·.size) = some tabV.size := by rw [tabV_size]; kernel_rfl

theorem update_zero (w : World) (T B : Nat) (A : Option Addr) (n c : Nat) (ls : List (List UInt8)) (hT : Blk w T 108 tabV) (hR : RowsAt w B A n ls) (hn : n ≤ maxLen) :
    Calls Tryz.prog 51 #[.pointer (some ⟨T, 0, none⟩), .int .u32 0, .slice A n c] w fun e w' => e = .returned (.int .u32 ((sum ls.flatten).toNat : Int)) ∧ ∃ q, w.drewN q = w' :=
  update_any w T B 0#32 A n c ls hT hR hn

theorem below_drewN {B : Nat} {a w : World} (h : Below B a w) (n : Nat) : Below B a (w.drewN n) := ⟨h.os, h.tape, h.output, h.size, h.block⟩

set_option maxRecDepth 100000 in
theorem Sum_any (w : World) (B : Nat) (A : Option Addr) (n c : Nat) (ls : List (List UInt8)) (hR : RowsAt w B A n ls) (hB : B ≤ w.heap.size) (hn : n ≤ maxLen) :
    Calls Tryz.prog 29 #[.slice A n c] w fun e w' => e = .returned (.int .u32 ((sum ls.flatten).toNat : Int)) ∧ Below w.heap.size w w' := by
  go_enter Tryz.func29, Tryz.ntmps29
  go_wp2_with (first | (go_at_call 50; refine (made_any _).mono ?_; rintro e w1 ⟨rfl, hb1⟩) | (refine wpList_store_row rfl 108 _ _ rfl w1.heap.size tabV rfl rfl 108 Tryz.zeroCells108 (Blk.new _ _ _) info_table (by rw [tabV_size]; exact zero_table.1) tabV_one ?_) | (go_at_call 51; refine (update_zero _ w1.heap.size B A n c ls ((Blk.new w1 108 Tryz.zeroCells108).setRow tabV) (hR.below ((below_setRow1 (hb1.alloc hb1.size _) hb1.size _).mono hB)) hn).mono ?_; rintro e w2 ⟨rfl, q, rfl⟩))
  go_ret
  exact ⟨rfl, below_drewN (below_setRow1 (hb1.alloc hb1.size _) hb1.size _) q⟩

/-- the sum of one part, as a call 'Sum(b)' makes it: the part lies in a row that was just made -/
theorem Sum_new (W : World) (B : Nat) (A : Option Addr) (n c : Nat) (l : List UInt8) (hR : BytesAt W B A n l) (hB : B ≤ W.heap.size) (hnc : n ≤ c) (hc : c ≤ maxLen) :
    Calls Tryz.prog 29 #[.slice (some ⟨W.heap.size, 0, none⟩) 1 1] (W.alloc (.cells #[.slice A n c] 26)) fun e w' => e = .returned (.int .u32 ((sum l).toNat : Int)) ∧ Below W.heap.size W w' := by
  have hb : Below W.heap.size W (W.alloc (.cells #[.slice A n c] 26)) := (Below.refl _ _).alloc (Nat.le_refl _) _
  refine (Sum_any _ (W.heap.size + 1) _ 1 1 [l] (RowsAt.one (Blk.new W 26 #[.slice A n c]).cells (by omega) ((hR.below (hb.mono hB)).more (by omega)) hnc hc) (by simp) (by unfold maxLen; omega)).mono ?_
  rintro e w2 ⟨rfl, h2⟩
  exact ⟨by simp, hb.trans (h2.mono (by simp))⟩

end Go.Proofs.YtbbjeokecgnfpaaGreat
