/-
  The walk of mudlarkkit's PartsOf: how much parts are, as far as it is asked.
-/
import Derived.Outline
import Derived.Lib.Hide
import Derived.Test.YtbbjeokecgnfpaaPart
import Derived.Test.YtbbjeokecgnfpaaQuiet
namespace Go.Proofs.Ytbbjeokecgnfpaa
open Go.RowKit

/-- what is told: all, or more than is asked -/
def PartsN (ts : List PartM) (most N : Nat) : Prop := (partsTot ts ≤ most ∧ N = partsTot ts) ∨ (most < N ∧ most < partsTot ts)
def PartsNV (ts : List PartM) (most : Nat) (w : World) (e : Ending) (w' : World) : Prop := ∃ N : Nat, PartsN ts most N ∧ e = .returned (.int .i64 (N : Int)) ∧ w = w'

set_option maxRecDepth 100000 in
set_option maxHeartbeats 2000000 in
theorem PartsOf_any (w : World) (B : Nat) (A : Option Addr) (n c most : Nat) (ts : List PartM) (hT : PartsAt w B A n ts) (hn : n ≤ 4398046510976) (hm : most ≤ 1000000) :
    Calls Try.prog 9 #[.slice A n c, .int .i64 (most : Int)] w (PartsNV ts most w) := by
  have Hlen := Lib.hid hT.len
  go_enter Try.func9, Try.ntmps9
  go_wp2
  go_loopw [5, 6] (fun v5 v6 wr => ∃ k S : Nat, k ≤ n ∧ v5 = .int .i64 (S : Int) ∧ v6 = .int .i64 (k : Int) ∧ Hid (S = partsTot (ts.take k)) ∧ S ≤ 281474976710656 ∧ w = wr) (fun _ v6 _ => n - (intOf v6).toNat)
  case atStart => exact ⟨0, 0, by omega, rfl, rfl, by simp [partsTot, Hid], by omega, rfl⟩
  case round =>
    obtain ⟨k, S, hk, rfl, rfl, hS, hSb, rfl⟩ := hrel
    by_cases hlt : k < n
    · by_cases hs : S ≤ most
      · obtain ⟨t, ht⟩ : ∃ t, ts[k]? = some t := ⟨_, List.getElem?_eq_getElem (by rw [Hlen.out]; exact hlt)⟩
        obtain ⟨b, off, A1, n1, c1, rfl, hb, -, hc1, hnc, -, hcm, hb1⟩ := hT.at_ ht
        have HS2 := Lib.hid (show S + (1 + n1) = partsTot (ts.take (k + 1)) by rw [partsTot_succ ht, hb1.len, ← hS.out])
        have d1 : decide ((S : Int) ≤ (most : Int)) = true := decide_eq_true (by omega)
        clear ht hb1
        go_wp2
        go_roundw
        case rel => exact ⟨k + 1, S + (1 + n1), by omega, by go_num, by go_num, HS2, by omega, trivial⟩
        case measure => simp [intOf]; omega
      · have d1 : decide ((S : Int) ≤ (most : Int)) = false := decide_eq_false (by omega)
        have hle := partsTot_le ts k
        have Hle := Lib.hid hle
        clear hle
        go_wp2
        go_ret
        exact ⟨S, Or.inr ⟨by omega, by have h1 := Hle.out; have h2 := hS.out; omega⟩, rfl, rfl⟩
    · obtain rfl : k = n := by omega
      have hS2 := Lib.hid (show S = partsTot ts by rw [hS.out, List.take_of_length_le (by rw [Hlen.out]; exact Nat.le_refl _)])
      by_cases hs : S ≤ most
      · go_wp2
        go_ret
        exact ⟨S, Or.inl ⟨by rw [← hS2.out]; exact hs, hS2.out⟩, rfl, rfl⟩
      · go_wp2
        go_ret
        exact ⟨S, Or.inr ⟨by omega, by rw [← hS2.out]; omega⟩, rfl, rfl⟩
end Go.Proofs.Ytbbjeokecgnfpaa
