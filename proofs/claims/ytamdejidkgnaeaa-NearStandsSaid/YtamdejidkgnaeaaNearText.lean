/-
  The walk of mudlarkkit's TextsOf: how many bytes texts are, each and one.
-/
import Derived.Test.YtamdejidkgnaeaaNearFind
namespace Go.Proofs.Ytamdejidkgnaeaa
open Go.RowKit
set_option linter.unusedVariables false
def totT (rs : List ByteArray) : Nat := (rs.map fun s => 1 + s.size).sum
theorem totT_snoc {rs : List ByteArray} {k : Nat} {s : ByteArray} (h : rs[k]? = some s) : totT (rs.take (k + 1)) = totT (rs.take k) + 1 + s.size := by
  unfold totT
  rw [List.take_add_one, h]
  simp only [Option.toList, List.map_append, List.map_cons, List.map_nil, List.sum_append, List.sum_cons, List.sum_nil]
  omega
theorem totT_mem {rs : List ByteArray} {s : ByteArray} (h : s ∈ rs) : s.size ≤ totT rs ∧ rs.length ≤ totT rs := by
  induction rs with
  | nil => cases h
  | cons a l ih =>
    have hl : l.length ≤ totT l := by
      clear ih h
      induction l with
      | nil => exact Nat.zero_le _
      | cons b l ih =>
        simp only [totT, List.map_cons, List.sum_cons, List.length_cons] at ih ⊢
        omega
    have e : totT (a :: l) = 1 + a.size + totT l := by simp [totT]
    rw [e, List.length_cons]
    rcases List.mem_cons.1 h with rfl | h
    · omega
    · have := (ih h).1
      omega
set_option maxRecDepth 100000 in
set_option maxHeartbeats 1000000 in
theorem textsOf_any (w : World) (B : Nat) (A : Option Addr) (n c : Nat) (rs : List ByteArray) (hR : ReadsAt w B 1 A n (rs.map Value.string)) (hs : ∀ s ∈ rs, s.size ≤ 281474976710656) (hn : n ≤ 281474976710656) :
    Calls Try.prog 5 #[.slice A n c, .int .i64 600] w fun e w' => ∃ r : Nat, e = .returned (.int .i64 (r : Int)) ∧ (r ≤ 600 → r = totT rs) ∧ r ≤ 2814749767106560 ∧ w' = w := by
  have hlen : rs.length = n := by have := hR.1; simpa using this
  obtain ⟨S, hS⟩ : ∃ S : Nat → Nat, S = fun k => totT (rs.take k) := ⟨_, rfl⟩
  have hS0 : S 0 = 0 := by rw [hS]; simp [totT]
  have HSn := Lib.hid (show S n = totT rs by rw [hS, ← hlen]; show totT (rs.take rs.length) = _; rw [List.take_length])
  have HSs := Lib.hid (show ∀ k s, rs[k]? = some s → S (k + 1) = S k + 1 + s.size from fun k s h => by rw [hS]; exact totT_snoc h)
  have Hlen := Lib.hid hlen
  have HR := Lib.hid hR
  have Hs := Lib.hid hs
  have HS0 := Lib.hid hS0
  clear hS hlen hR hs hS0
  go_enter Try.func5, Try.ntmps5
  go_wp2
  go_loopw [5, 6] (fun v5 v6 wr => ∃ k : Nat, k ≤ n ∧ v5 = .int .i64 (S k : Nat) ∧ v6 = .int .i64 (k : Int) ∧ S k ≤ 2814749767106560 ∧ wr = w) (fun _ v6 _ => n - (intOf v6).toNat)
  case atStart => exact ⟨0, by omega, by rw [HS0.out]; rfl, rfl, by rw [HS0.out]; omega, rfl⟩
  case round =>
    obtain ⟨k, hk, rfl, rfl, hsb, rfl⟩ := hrel
    by_cases hlt : k < n
    · by_cases h6 : S k ≤ 600
      · have d1 : decide ((k : Int) < (n : Int)) = true := decide_eq_true (by omega)
        have d2 : decide ((S k : Int) ≤ 600) = true := decide_eq_true (by omega)
        obtain ⟨s, hsk⟩ : ∃ s, rs[k]? = some s := ⟨_, List.getElem?_eq_getElem (by rw [Hlen.out]; exact hlt)⟩
        have HSk := Lib.hid (HSs.out k s hsk)
        have hsz := Hs.out s (List.mem_of_getElem? hsk)
        obtain ⟨b, off, rfl, hb, hcs⟩ := HR.out.2 (by omega)
        have hc : wr.cell? ⟨b, off + k, none⟩ = some (.string s) := hcs k _ (by rw [List.getElem?_map, hsk]; rfl)
        clear hsk hcs
        go_wp2_with fail
        go_roundw
        case rel => exact ⟨k + 1, by omega, by rw [HSk.out]; go_num, by go_num, by rw [HSk.out]; omega, by first | trivial | rfl⟩
        case measure => simp [intOf]; omega
      · have d1 : decide ((k : Int) < (n : Int)) = true := decide_eq_true (by omega)
        have d2 : decide ((S k : Int) ≤ 600) = false := decide_eq_false (by omega)
        go_wp2_with fail
        go_ret
        exact ⟨S k, rfl, fun h => absurd h h6, hsb, rfl⟩
    · have d1 : decide ((k : Int) < (n : Int)) = false := decide_eq_false (by omega)
      obtain rfl : k = n := by omega
      go_wp2_with fail
      go_ret
      exact ⟨S k, rfl, fun _ => HSn.out, hsb, rfl⟩
end Go.Proofs.Ytamdejidkgnaeaa
