/-
  The walk of mudlarkkit's Pick.
-/
import Derived.Test.YtcfhhekklakacaaProg
import Derived.Outline
import Derived.WalkKit
namespace Go.Proofs.Ytcfhhekklakacaa
open Go.RowKit

/-- what Pick answers -/
def pickI (x n : Int) : Int := if n < 1 then 0 else if x.tmod n < 0 then x.tmod n + n else x.tmod n
theorem pickI_nonneg (x n : Int) : 0 ≤ pickI x n := by
  unfold pickI
  split
  · omega
  · have h := Int.lt_tmod_of_pos x (show 0 < n by omega)
    split <;> omega
theorem pickI_lt (x n : Int) (h : 1 ≤ n) : pickI x n < n := by
  unfold pickI
  rw [if_neg (by omega)]
  have h1 := Int.tmod_lt_of_pos x (show 0 < n by omega)
  split <;> omega

theorem Pick_any (x n : Int) (w : World) (h1 : -9223372036854775808 ≤ x) (h2 : x ≤ 9223372036854775807) (hn2 : n ≤ 9223372036854775807) :
    Calls Try.prog 20 #[.int .i64 x, .int .i64 n] w fun e w' => e = .returned (.int .i64 (pickI x n)) ∧ w = w' := by
  by_cases hn : n < 1
  · have hp : pickI x n = 0 := by rw [pickI, if_pos hn]
    rw [hp]
    clear hp
    go_enter Try.func20, Try.ntmps20
    go_wp2
    go_ret
    exact ⟨rfl, rfl⟩
  · have hp : pickI x n = if x.tmod n < 0 then x.tmod n + n else x.tmod n := by rw [pickI, if_neg hn]
    rw [hp]
    clear hp
    have hn1 : 1 ≤ n := by omega
    have hlo := Int.lt_tmod_of_pos x (show 0 < n by omega)
    have hhi := Int.tmod_lt_of_pos x (show 0 < n by omega)
    by_cases hx : 0 ≤ x
    · rw [if_neg (by rw [Int.tmod_eq_emod_of_nonneg hx]; have := Int.emod_nonneg x (show n ≠ 0 by omega); omega), Int.tmod_eq_emod_of_nonneg hx]
      have := Int.emod_nonneg x (show n ≠ 0 by omega)
      go_enter Try.func20, Try.ntmps20
      go_wp2
      go_ret
      exact ⟨rfl, rfl⟩
    · by_cases hr : x.tmod n < 0
      · rw [if_pos hr]
        go_enter Try.func20, Try.ntmps20
        go_wp2
        go_ret
        exact ⟨rfl, rfl⟩
      · rw [if_neg hr]
        go_enter Try.func20, Try.ntmps20
        go_wp2
        go_ret
        exact ⟨rfl, rfl⟩
theorem Pick_nat (x n : Int) (k : Nat) (w : World) (hk : pickI x n = (k : Int)) (h1 : -9223372036854775808 ≤ x) (h2 : x ≤ 9223372036854775807) (hn2 : n ≤ 9223372036854775807) :
    Calls Try.prog 20 #[.int .i64 x, .int .i64 n] w fun e w' => e = .returned (.int .i64 (k : Int)) ∧ w = w' :=
  (Pick_any x n w h1 h2 hn2).mono fun _ _ ⟨he, hw⟩ => ⟨by rw [he, hk], hw⟩
end Go.Proofs.Ytcfhhekklakacaa
