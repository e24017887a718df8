/-
  math/bits.ReverseBytes32: the bytes of a number, the other way round.
-/
import Derived.Test.YtbbjeokecgnfpaaGreatProg
import Derived.Outline
import Derived.Lib.Hide
import Derived.Test.YtbbjeokecgnfpaaGreatBaseA
import Derived.Test.YtbbjeokecgnfpaaGreatBaseC
namespace Go.Proofs.YtbbjeokecgnfpaaGreat
open Go.RowKit
attribute [local go_sem] Oper.semAt_some

def swap8 (x : BitVec 32) : BitVec 32 := ((x >>> 8) &&& 16711935#32) ||| ((x &&& 16711935#32) <<< 8)
def rev4 (x : BitVec 32) : BitVec 32 := (swap8 x >>> 16) ||| (swap8 x <<< 16)

theorem rev4_byte (x : BitVec 32) (k : Nat) (hk : k < 4) : (rev4 x).extractLsb' (8 * k) 8 = x.extractLsb' (24 - 8 * k) 8 := by
  apply BitVec.eq_of_getLsbD_eq
  intro i hi
  match k, hk with
  | 0, _ | 1, _ | 2, _ | 3, _ =>
    match i, hi with
    | 0, _ | 1, _ | 2, _ | 3, _ | 4, _ | 5, _ | 6, _ | 7, _ => simp [rev4, swap8]
/-- the byte at a shift -/
theorem rev4_at (x : BitVec 32) (k : Nat) (hk : k < 4) : (rev4 x).toNat / 2 ^ (8 * k) % 256 = x.toNat / 2 ^ (24 - 8 * k) % 256 := by
  have h := congrArg BitVec.toNat (rev4_byte x k hk)
  simpa [BitVec.extractLsb'_toNat, Nat.shiftRight_eq_div_pow] using h
theorem rev4_lt (x : BitVec 32) : (rev4 x).toNat < 4294967296 := (rev4 x).isLt

theorem and_u32 (a b : BitVec 32) : bits BinOp.and IntKind.u32 (a.toNat : Int) (b.toNat : Int) = ((a &&& b).toNat : Int) := by
  rw [BitVec.toNat_and]
  exact u32_and_nat _ _ a.isLt b.isLt
theorem or_u32 (a b : BitVec 32) : bits BinOp.or IntKind.u32 (a.toNat : Int) (b.toNat : Int) = ((a ||| b).toNat : Int) := by
  rw [BitVec.toNat_or]
  exact u32_or_nat _ _ a.isLt b.isLt
theorem shr_u32 (a : BitVec 32) (k : Nat) : ((a.toNat : Int) / 2 ^ k) = ((a >>> k).toNat : Int) := by
  rw [BitVec.toNat_ushiftRight, Nat.shiftRight_eq_div_pow, Int.natCast_ediv, Int.natCast_pow]
  rfl
theorem shl_u32 (a : BitVec 32) (k : Nat) : ((a.toNat : Int) * 2 ^ k % 4294967296) = ((a <<< k).toNat : Int) := by
  rw [BitVec.toNat_shiftLeft, Nat.shiftLeft_eq, Int.natCast_emod, Int.natCast_mul, Int.natCast_pow]
  rfl
theorem swap8_val (x : BitVec 32) : bits BinOp.or IntKind.u32 (bits BinOp.and IntKind.u32 ((x.toNat : Int) / 256) 16711935) (bits BinOp.and IntKind.u32 (x.toNat : Int) 16711935 * 256 % 4294967296) = ((swap8 x).toNat : Int) := by
  rw [show (256 : Int) = 2 ^ 8 from rfl, shr_u32, show (16711935 : Int) = ((16711935#32).toNat : Int) from rfl, and_u32, and_u32, shl_u32, or_u32]
  rfl

theorem Rev32_any (x : BitVec 32) (w : World) : Calls Tryz.prog 87 #[.int .u32 (x.toNat : Int)] w fun e w' => e = .returned (.int .u32 ((rev4 x).toNat : Int)) ∧ w = w' := by
  go_enter Tryz.func87, Tryz.ntmps87
  go_wp2
  go_ret
  refine ⟨?_, rfl⟩
  show Ending.returned (Value.int IntKind.u32 (bits BinOp.or IntKind.u32 (bits BinOp.or IntKind.u32 (bits BinOp.and IntKind.u32 ((x.toNat : Int) / 256) 16711935) (bits BinOp.and IntKind.u32 (x.toNat : Int) 16711935 * 256 % 4294967296) / 65536) (bits BinOp.or IntKind.u32 (bits BinOp.and IntKind.u32 ((x.toNat : Int) / 256) 16711935) (bits BinOp.and IntKind.u32 (x.toNat : Int) 16711935 * 256 % 4294967296) * 65536 % 4294967296))) = _
  rw [swap8_val, show (65536 : Int) = 2 ^ 16 from rfl, shr_u32, shl_u32, or_u32]
  rfl
end Go.Proofs.YtbbjeokecgnfpaaGreat
