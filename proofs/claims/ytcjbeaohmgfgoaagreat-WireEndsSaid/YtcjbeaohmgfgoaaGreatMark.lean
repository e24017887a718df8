/-
  The walks of mudlarkkit's mark and markByte.
-/
import Derived.Test.YtcjbeaohmgfgoaaGreatProg
import Derived.Outline
import Derived.WalkKit
import Derived.Lib.Hide
namespace Go.Proofs.YtcjbeaohmgfgoaaGreat
open Go.RowKit

/-- a place's mark -/
def markI (k i : Int) : Int := 1000003 * (k + 7) + i
theorem mark_any (k i : Int) (w : World) (hk : 0 ≤ k) (hk2 : k ≤ 1000000000000) (hi : 0 ≤ i) (hi2 : i ≤ 1000000000000000000) :
    Calls Tryz.prog 103 #[.int .i64 k, .int .i64 i] w fun e w' => e = .returned (.int .i64 (markI k i)) ∧ w = w' := by
  go_enter Tryz.func103, Tryz.ntmps103
  go_wp2
  go_ret
  exact ⟨rfl, rfl⟩
theorem u8_mod (x : Int) : x % 256 = ((UInt8.ofNat (x % 256).toNat).toNat : Int) := by
  rw [UInt8.toNat_ofNat', Nat.mod_eq_of_lt (by omega)]
  omega
/-- a place's mark among bytes -/
def markB (k i : Int) : UInt8 := UInt8.ofNat (IntKind.u64.wrap (markI k i * 11400714819323198485) / 72057594037927936 % 256).toNat
theorem markB_eq (k i m : Int) (h : markI k i = m) : IntKind.u64.wrap (m * 11400714819323198485) / 72057594037927936 % 256 = ((markB k i).toNat : Int) := by
  rw [markB, h]
  exact u8_mod _
theorem markByte_any (k i : Int) (w : World) (hk : 0 ≤ k) (hk2 : k ≤ 1000000000000) (hi : 0 ≤ i) (hi2 : i ≤ 1000000000000000000) :
    Calls Tryz.prog 69 #[.int .i64 k, .int .i64 i] w fun e w' => e = .returned (.int .u8 ((markB k i).toNat : Int)) ∧ w = w' := by
  have h0 : 0 ≤ markI k i := by unfold markI; omega
  have h1 : markI k i ≤ 3000000000000000000 := by unfold markI; omega
  go_enter Tryz.func69, Tryz.ntmps69
  go_wp2_with fail
  refine (mark_any k i _ hk hk2 hi hi2).mono ?_
  rintro e w' ⟨rfl, rfl⟩
  generalize hm : markI k i = m at *
  have Hm := Lib.hid hm
  clear hm
  go_wp2
  go_ret
  exact ⟨by rw [← markB_eq k i m Hm.out]; rfl, rfl⟩
end Go.Proofs.YtcjbeaohmgfgoaaGreat
