/-
  The walk of mudlarklaw04's great: whether deeds are too many to be gone through.
-/
import Derived.Test.YtcfhhekklakacaaVfsDeed
namespace Go.Proofs.Ytcfhhekklakacaa
open Go.RowKit
set_option linter.unusedVariables false
set_option maxRecDepth 100000 in
set_option maxHeartbeats 2000000 in
theorem great04_any (w : World) (B : Nat) (A : Option Addr) (n c : Nat) (ts : List DeedM) (hT : DeedsAt w B A n ts) (hn : n ≤ 1954687338269) :
    Calls Try.prog 15 #[.slice A n c] w fun e w' => e = .returned (.bool (great04B ts)) ∧ ∃ q, w.drewN q = w' := by
  have hlen := hT.len
  obtain ⟨S, hS⟩ : ∃ S : Nat → Nat, S = fun k => n + deedsTot (ts.take k) := ⟨_, rfl⟩
  have hS0 : n = S 0 := by rw [hS]; simp [deedsTot]
  have hSn : Hid (S n = n + deedsTot ts) := by rw [hS, ← hlen]; simp [Hid]
  have hSle : ∀ k, Hid (S k ≤ S n) := fun k => by
    have h1 := hSn.out
    have h2 := deedsTot_le ts k
    have h3 : S k = n + deedsTot (ts.take k) := by rw [hS]
    show S k ≤ S n
    omega
  have hSs : ∀ k t, ts[k]? = some t → Hid (S (k + 1) = S k + t.name.size + t.to'.size + t.b.length + t.tears.length) := fun k t h => by
    have h1 : S (k + 1) = n + deedsTot (ts.take (k + 1)) := by rw [hS]
    have h3 : S k = n + deedsTot (ts.take k) := by rw [hS]
    have h4 := deedsTot_succ h
    rw [deedSize] at h4
    show S (k + 1) = _
    omega
  have hg : Hid (great04B ts = decide (3000 < S n ∨ 200 < n)) := by
    show great04B ts = _
    rw [hSn.out, great04B, hlen]
  have Hlen := Lib.hid hlen
  have HS0 := Lib.hid hS0
  clear hS hlen hS0
  go_enter Try.func15, Try.ntmps15
  go_wp2
  go_loopw [3, 4] (fun v3 v4 wr => ∃ k q : Nat, k ≤ n ∧ v3 = .int .i64 (S k : Nat) ∧ v4 = .int .i64 (k : Int) ∧ S k ≤ 2814749767106560 ∧ w.drewN q = wr) (fun _ v4 _ => n - (intOf v4).toNat)
  case atStart => exact ⟨0, 0, by omega, by rw [← HS0.out], rfl, by have := HS0.out; omega, rfl⟩
  case round =>
    obtain ⟨k, q, hk, rfl, rfl, hsb, rfl⟩ := hrel
    by_cases hlt : k < n
    · by_cases hs : S k ≤ 3000
      · obtain ⟨t, ht⟩ : ∃ t, ts[k]? = some t := ⟨_, List.getElem?_eq_getElem (by rw [Hlen.out]; exact hlt)⟩
        have HSs := hSs k t ht
        obtain ⟨b, off, A1, n1, c1, A3, n3, c3, rfl, hb, hcs, ⟨-, -, hnm, hto⟩, ⟨h4, h5, h6⟩, ⟨h7, h8, h9⟩, -⟩ := hT.at_ ht
        have hq1 := hcs 1 _ rfl
        have hq2 := hcs 2 _ rfl
        have hq5 := hcs 5 _ rfl
        have hq6 := hcs 6 _ rfl
        obtain ⟨z1, hz1⟩ : ∃ z, z = t.name.size := ⟨_, rfl⟩
        obtain ⟨z2, hz2⟩ : ∃ z, z = t.to'.size := ⟨_, rfl⟩
        have HSn : Hid (S (k + 1) = S k + t.name.size + t.to'.size + n1 + n3) := by
          show _ = _
          rw [HSs.out, h6.len, h9.len]
        clear HSs ht h6 h9 hcs hz1 hz2
        go_wp2_with fail
        go_quiet (fail)
        go_wp2
        go_roundw
        case rel => exact ⟨k + 1, _, by omega, by rw [HSn.out]; go_num, by go_num, by have := HSn.out; omega, rfl⟩
        case measure => simp [intOf]; omega
      · have hgt : great04B ts = true := by
          rw [hg.out, decide_eq_true_eq]
          have := (hSle k).out
          omega
        have Hgt := Lib.hid hgt
        have d1 : decide ((S k : Int) ≤ 3000) = false := decide_eq_false (by omega)
        have hs4 : 3000 < S k := by omega
        clear hgt hs
        go_wp2
        go_ret
        exact ⟨ret_bool (by rw [Hgt.out]), _, rfl⟩
    · obtain rfl : k = n := by omega
      by_cases hs : S k ≤ 3000
      all_goals
        go_wp2
        go_ret
        exact ⟨ret_bool (by rw [hg.out]; first | (rw [← Bool.decide_or]; congr 1; apply propext; omega) | (symm; rw [decide_eq_true_eq]; omega)), _, rfl⟩
end Go.Proofs.Ytcfhhekklakacaa
