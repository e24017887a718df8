/-
  The walks of wire.fits (whether numbers are such) and what it calls.
-/
import Derived.Test.YtbbjeokecgnfpaaSame
import Derived.Test.YtbbjeokecgnfpaaWireMath
namespace Go.Proofs.Ytbbjeokecgnfpaa
open Go.RowKit WireM

/-- a number that is none -/
def badB (n : Int) : Bool := decide (n < 0) || decide (1099511627776 < n)
/-- all are such -/
def fitsB (l : List Int) : Bool := l.all fun n => !badB n

theorem fits1_any (n : Int) (w : World) : Calls Try.prog 38 #[.int .i64 n] w fun e w' => e = .returned (.bool (badB n)) ∧ w = w' := by
  by_cases h : n < 0
  · have hb := Lib.hid (show badB n = true by simp [badB, h])
    go_enter Try.func38, Try.ntmps38
    go_wp2
    go_ret
    exact ⟨ret_bool hb.out.symm, rfl⟩
  · by_cases h2 : 1099511627776 < n
    · have hb := Lib.hid (show badB n = true by simp [badB, h2])
      go_enter Try.func38, Try.ntmps38
      go_wp2
      go_ret
      exact ⟨ret_bool hb.out.symm, rfl⟩
    · have hb := Lib.hid (show badB n = false by simp [badB, h, h2])
      go_enter Try.func38, Try.ntmps38
      go_wp2
      go_ret
      exact ⟨ret_bool hb.out.symm, rfl⟩

theorem fits1_is (n : Int) (b : Bool) (hb : badB n = b) (w : World) : Calls Try.prog 38 #[.int .i64 n] w fun e w' => e = .returned (.bool b) ∧ w = w' := by
  rw [← hb]
  exact fits1_any n w

/-- where the first one is that is none; below 0: there is none -/
theorem IndexFits_any (w : World) (B : Nat) (A : Option Addr) (n c : Nat) (l : List Int) (hR : IntsAt w B A n l) (hn : n ≤ maxLen) :
    Calls Try.prog 43 #[.slice A n c, .func (.func 38) #[] #[]] w fun e w' => ∃ r : Int, e = .returned (.int .i64 r) ∧ decide (0 ≤ r) = !fitsB l ∧ w = w' := by
  unfold maxLen at hn
  have Hlen := Lib.hid hR.len
  go_enter Try.func43, Try.ntmps43
  go_wp2
  go_loop [5, 8] (fun _ v8 => ∃ k : Nat, k ≤ n ∧ v8 = .int .i64 (k : Int) ∧ Hid (∀ x ∈ l.take k, badB x = false)) (fun _ v8 => n - (intOf v8).toNat)
  case atStart => exact ⟨0, by omega, rfl, by simp [Hid]⟩
  case round =>
    obtain ⟨k, hk, rfl, hs⟩ := hrel
    by_cases hlt : k < n
    · obtain ⟨b, off, rfl, hb, hcl⟩ := hR.at_ (by omega)
      obtain ⟨x, hx⟩ : ∃ x, l[k]? = some x := ⟨_, List.getElem?_eq_getElem (by rw [Hlen.out]; exact hlt)⟩
      have hcx := hcl k x hx
      have Hx := Lib.hid hx
      clear hcl hx
      cases hbx : badB x with
      | true =>
        have Hb := Lib.hid hbx
        clear hbx
        go_wp2_with fail
        refine (fits1_is x true Hb.out _).mono ?_
        rintro e w' ⟨rfl, rfl⟩
        go_wp2
        go_ret
        refine ⟨(k : Int), rfl, ?_, rfl⟩
        have h1 : fitsB l = false := by
          rw [fitsB, List.all_eq_false]
          exact ⟨x, List.mem_of_getElem? Hx.out, by rw [Hb.out]; simp⟩
        rw [h1]
        simp
      | false =>
        have Hb := Lib.hid hbx
        clear hbx
        go_wp2_with fail
        refine (fits1_is x false Hb.out _).mono ?_
        rintro e w' ⟨rfl, rfl⟩
        go_wp2
        go_round
        case rel =>
          refine ⟨k + 1, by omega, by go_num, ?_⟩
          show ∀ y ∈ l.take (k + 1), badB y = false
          rw [List.take_add_one, Hx.out]
          intro y hy
          rcases List.mem_append.1 hy with hy | hy
          · exact hs.out y hy
          · obtain rfl : y = x := by simpa using hy
            exact Hb.out
        case measure => simp [intOf]; omega
    · obtain rfl : k = n := by omega
      go_wp2
      go_ret
      refine ⟨-1, rfl, ?_, rfl⟩
      have h1 : fitsB l = true := by
        rw [fitsB, List.all_eq_true]
        intro x hx
        have := hs.out x (by rw [List.take_of_length_le (by rw [Hlen.out]; omega)]; exact hx)
        rw [this]; rfl
      rw [h1]
      rfl
theorem ContainsFits_any (w : World) (B : Nat) (A : Option Addr) (n c : Nat) (l : List Int) (hR : IntsAt w B A n l) (hn : n ≤ maxLen) :
    Calls Try.prog 37 #[.slice A n c, .func (.func 38) #[] #[]] w fun e w' => e = .returned (.bool (!fitsB l)) ∧ w = w' := by
  go_enter Try.func37, Try.ntmps37
  go_wp2_with fail
  refine (IndexFits_any _ B A n c l hR hn).mono ?_
  rintro e w' ⟨r, rfl, hr, rfl⟩
  have Hr := Lib.hid hr
  clear hr
  go_wp2
  go_ret
  exact ⟨ret_bool Hr.out, rfl⟩
theorem fits_any (w : World) (B : Nat) (A : Option Addr) (n c : Nat) (l : List Int) (hR : IntsAt w B A n l) (hn : n ≤ maxLen) :
    Calls Try.prog 30 #[.slice A n c] w fun e w' => e = .returned (.bool (fitsB l)) ∧ w = w' := by
  go_enter Try.func30, Try.ntmps30
  go_wp2_with fail
  refine (ContainsFits_any _ B A n c l hR hn).mono ?_
  rintro e w' ⟨rfl, rfl⟩
  go_wp2
  go_ret
  exact ⟨ret_bool (by simp), rfl⟩
theorem fits_is (w : World) (B : Nat) (A : Option Addr) (n c : Nat) (l : List Int) (b : Bool) (hb : fitsB l = b) (hR : IntsAt w B A n l) (hn : n ≤ maxLen) :
    Calls Try.prog 30 #[.slice A n c] w fun e w' => e = .returned (.bool b) ∧ w = w' := by
  rw [← hb]
  exact fits_any w B A n c l hR hn
end Go.Proofs.Ytbbjeokecgnfpaa
