/-
  The walks of package crc, part 1: Bit; a byte's bits, gone through.
-/
import Derived.Test.YtbbjeokecgnfpaaGreatProg
import Derived.Outline
import Derived.Shelf.Abstract
import Derived.Shelf.RegionOpen
import Derived.OwnWalkIn
import Derived.TacticsInMore
import Derived.LoopNIn
import Derived.LoopIn
import Derived.Lib.Hide
import Derived.Test.YtbbjeokecgnfpaaGreatRange
import Derived.Test.YtbbjeokecgnfpaaGreatBaseA
import Derived.Test.YtbbjeokecgnfpaaGreatCrcBits
namespace Go.Proofs.YtbbjeokecgnfpaaGreat
open Go.RowKit Go.Shelf CrcM
attribute [local go_sem] Oper.semAt_some

theorem Bit_any (s : W32) (b : Bool) (w : World) : Calls Tryz.prog 89 #[.int .u32 (s.toNat : Int), .bool b] w fun e w' => e = .returned (.int .u32 ((bitS s b).toNat : Int)) ∧ w = w' := by
  go_enter Tryz.func89, Tryz.ntmps89
  go_wp2
  · go_ret
    exact ⟨ret_int (bit_yes s b (by assumption)), rfl⟩
  · go_ret
    exact ⟨ret_int (bit_no s b (by assumption)), rfl⟩

/-- 'bits(b)': the closure over a box that holds b. -/
theorem bits_any (b : Nat) (w : World) : Calls Tryz.prog 88 #[.int .u8 (b : Int)] w fun e w' => e = .returned (.func (.func 116) #[] #[.pointer (some ⟨w.heap.size, 0, none⟩)]) ∧ w.alloc (.cells #[.int .u8 (b : Int)] 5) = w' := by
  go_enter Tryz.func88, Tryz.ntmps88
  go_wp2
  go_ret
  exact ⟨rfl, rfl⟩

set_option maxHeartbeats 1000000 in
/-- The closure itself: the rounds are told the byte's bits, the lowest one first; J k: what the rounds keep when k of them are over. -/
theorem bits1_any (F : Fence) (n : Nat) (hf : F.fn 116) (hro : F.round = none) (hn : 1 ≤ n) (l B : Nat) (b : UInt8) (J : Nat → World → Prop)
    (hJ : ∀ k W u, J k W → J k (W.setCell ⟨B, 0, none⟩ u))
    (hY : ∀ k W1, k < 8 → J k W1 → Boxed W1 B 5 (.int .u8 (shrB b k : Int)) → YieldAt F (n - 1) Tryz.prog l #[.bool (b.toNat.testBit k)] W1 fun e W' =>
      e = .returned (.bool true) ∧ J (k + 1) W' ∧ Boxed W' B 5 (.int .u8 (shrB b k : Int)))
    (W : World) (hB : Boxed W B 5 (.int .u8 (b.toNat : Int))) (h0 : J 0 W) :
    CallsIn F n Tryz.prog 116 #[.func (.yield l) #[] #[], .pointer (some ⟨B, 0, none⟩)] W fun e W' => (∃ v, e = .returned v) ∧ J 8 W' := by
  refine callsIn_of_wp Tryz.func116 rfl hf ?_ hro
  simp only [Tryz.ntmps116, List.size_toArray, List.length_cons, List.length_nil, Nat.reduceAdd, Nat.reduceSub, Array.replicate_succ, Array.replicate_zero, List.push_toArray, List.append_toArray, List.nil_append, List.cons_append]
  gi_wp2
  gi_loopw [3] (fun i wr => ∃ k : Nat, k ≤ 8 ∧ i = .int .i64 (k : Int) ∧ J k wr ∧ Boxed wr B 5 (.int .u8 (shrB b k : Int))) (fun i _ => 8 - (intOf i).toNat)
  case atStart => exact ⟨0, by omega, rfl, h0, by rw [shrB_zero]; exact hB⟩
  case round =>
    obtain ⟨k, hk, rfl, hj, hb⟩ := hrel
    by_cases hlt : k < 8
    · obtain ⟨fn, tmps, assign, body, hy, hR⟩ := hY k wr hlt hj hb
      rw [shrB_bit] at hy
      have hx := shrB_lt b k
      have hd := shrB_succ b k
      generalize shrB b k = x at *
      rw [← and1_u8 x hx] at hy
      have hc := hb.cell
      have Hb := Lib.hid hb
      have Hd := Lib.hid hd
      clear hb hd hY
      gi_wp2
      refine hR.mono ?_
      rintro e W3 ⟨rfl, hJ3, hb3⟩
      have hc3 := hb3.cell
      have hf3 := hb3.frozen
      gi_wp2
      go_roundw
      case rel => exact ⟨k + 1, by omega, by go_num, hJ _ _ _ hJ3, by rw [Hd.out]; exact hb3.set _⟩
      case measure => simp [intOf]; omega
    · obtain rfl : k = 8 := by omega
      gi_wp2
      go_end0
      exact ⟨⟨_, rfl⟩, hj⟩
end Go.Proofs.YtbbjeokecgnfpaaGreat
