/-
  The sum's steps in the walk's own spelling: numbers of 32 and 8 bits. No program is in sight.
-/
import Derived.WalkKit
import Derived.Laws.BitsAllLaws
import Derived.Test.YtbbjeokecgnfpaaGreatCrcMath
namespace Go.Proofs.YtbbjeokecgnfpaaGreat
open Go.RowKit CrcM

theorem w32_lt (s : W32) : s.toNat < 4294967296 := s.isLt

theorem and1_u32 (x : Nat) (h : x < 4294967296) : (bits .and .u32 (x : Int) 1 == 1) = x.testBit 0 := by
  have e := u32_and_nat x 1 h (by omega)
  rw [show ((1 : Nat) : Int) = 1 from rfl] at e
  rw [e, Nat.and_one_is_mod, Nat.testBit_zero]
  rcases Nat.mod_two_eq_zero_or_one x with h | h <;> simp [h]

theorem shr1_w32 (s : W32) : ((s.toNat : Int) / (2 : Int)) = ((s >>> 1).toNat : Int) := by
  rw [BitVec.toNat_ushiftRight, Nat.shiftRight_eq_div_pow]; omega

/-- the two ways through Bit, as the walk shows them -/
theorem bit_yes (s : W32) (b : Bool) (h : (!(bits .and .u32 (s.toNat : Int) 1 == 1) == b) = true) : bits .xor .u32 ((s.toNat : Int) / 2) 3988292384 = ((bitS s b).toNat : Int) := by
  rw [and1_u32 _ (w32_lt s)] at h
  have e : bitS s b = (s >>> 1) ^^^ poly := by
    unfold bitS
    rw [if_pos]
    have : s.getLsbD 0 = s.toNat.testBit 0 := rfl
    rw [this]
    revert h
    cases s.toNat.testBit 0 <;> cases b <;> simp
  rw [e, shr1_w32, BitVec.toNat_xor, ← u32_xor_nat _ _ (w32_lt _) (w32_lt _)]
  rfl
theorem bit_no (s : W32) (b : Bool) (h : (!(bits .and .u32 (s.toNat : Int) 1 == 1) == b) = false) : ((s.toNat : Int) / 2) = ((bitS s b).toNat : Int) := by
  rw [and1_u32 _ (w32_lt s)] at h
  have e : bitS s b = s >>> 1 := by
    unfold bitS
    rw [if_neg]
    have : s.getLsbD 0 = s.toNat.testBit 0 := rfl
    rw [this]
    revert h
    cases s.toNat.testBit 0 <;> cases b <;> simp
  rw [e, shr1_w32]

theorem and1_u8 (x : Nat) (h : x < 256) : (bits .and .u8 (x : Int) 1 == 1) = x.testBit 0 := by
  have e := u8_and_nat x 1 h (by omega)
  rw [show ((1 : Nat) : Int) = 1 from rfl] at e
  rw [e, Nat.and_one_is_mod, Nat.testBit_zero]
  rcases Nat.mod_two_eq_zero_or_one x with h | h <;> simp [h]
/-- the i-th bit of a mask, as the walk shows it -/
theorem maskbit (m : W32) (i : Nat) : (bits .and .u32 ((m.toNat : Int) / 2 ^ i) 1 == 1) = m.toNat.testBit i := by
  have e : ((m.toNat : Int) / 2 ^ i) = ((m.toNat / 2 ^ i : Nat) : Int) := by rw [Int.natCast_ediv, Int.natCast_pow]; rfl
  rw [e, and1_u32 _ (Nat.lt_of_le_of_lt (Nat.div_le_self _ _) (w32_lt m)), Nat.testBit_div_two_pow, Nat.zero_add]

/-- a byte with one bit turned, as the walk shows it -/
theorem flip_byte (x : UInt8) (r : Nat) (hr : r < 8) : ∃ y : UInt8, y.toNat = x.toNat ^^^ 2 ^ r ∧ bits .xor .u8 (x.toNat : Int) (IntKind.u8.wrap (2 ^ r)) = (y.toNat : Int) := by
  have h2 : 2 ^ r < 256 := Nat.pow_lt_pow_right (a := 2) (by omega) hr
  have hlt : x.toNat ^^^ 2 ^ r < 256 := Nat.xor_lt_two_pow (n := 8) x.toNat_lt h2
  refine ⟨UInt8.ofNat (x.toNat ^^^ 2 ^ r), by rw [UInt8.toNat_ofNat', Nat.mod_eq_of_lt hlt], ?_⟩
  have e : IntKind.u8.wrap (2 ^ r) = ((2 ^ r : Nat) : Int) := by
    have e1 : ((2 : Int) ^ r) = ((2 ^ r : Nat) : Int) := by rw [Int.natCast_pow]; rfl
    have e2 : ∀ y : Int, IntKind.u8.wrap y = y % 256 := fun y => by simp [IntKind.wrap, IntKind.bits, IntKind.signed]
    rw [e1, e2]
    exact Int.emod_eq_of_lt (Int.natCast_nonneg _) (Int.ofNat_lt.2 h2)
  rw [e, u8_xor_nat _ _ x.toNat_lt h2, UInt8.toNat_ofNat', Nat.mod_eq_of_lt hlt]

/-- a byte, shifted right by k -/
def shrB (b : UInt8) (k : Nat) : Nat := b.toNat / 2 ^ k
theorem shrB_zero (b : UInt8) : shrB b 0 = b.toNat := by simp [shrB]
theorem shrB_succ (b : UInt8) (k : Nat) : shrB b (k + 1) = shrB b k / 2 := by simp [shrB, Nat.pow_succ, Nat.div_div_eq_div_mul]
theorem shrB_lt (b : UInt8) (k : Nat) : shrB b k < 256 := Nat.lt_of_le_of_lt (Nat.div_le_self _ _) b.toNat_lt
theorem shrB_bit (b : UInt8) (k : Nat) : b.toNat.testBit k = (shrB b k).testBit 0 := by
  rw [shrB, Nat.testBit_div_two_pow, Nat.zero_add]
theorem run_take_succ (b : UInt8) (j : Nat) (hj : j < 8) : run 0#32 ((bitsOf b).take (j + 1)) = bitS (run 0#32 ((bitsOf b).take j)) (b.toNat.testBit j) := by
  have hl : j < (bitsOf b).length := by rw [bitsOf_length]; exact hj
  rw [List.take_succ_eq_append_getElem hl, run_append]
  have : (bitsOf b)[j] = b.toNat.testBit j := by simp [bitsOf]
  rw [this]
  rfl
end Go.Proofs.YtbbjeokecgnfpaaGreat
