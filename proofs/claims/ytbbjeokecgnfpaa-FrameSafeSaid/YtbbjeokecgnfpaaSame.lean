/-
  The walks of mudlarkkit's SameBytes and SameInts.
-/
import Derived.Test.YtbbjeokecgnfpaaProg
import Derived.Outline
import Derived.WalkKit
import Derived.Lib.Hide
import Derived.Test.YtbbjeokecgnfpaaAppend
import Derived.Deep.QuietTactic
import Derived.BigQuiet
import Derived.IntWalk
namespace Go.Proofs.Ytbbjeokecgnfpaa
open Go.RowKit

/-- are two rows one? -/
def sameL {α : Type} [BEq α] (a b : List α) : Bool := a == b
section
variable {α : Type} [BEq α] [LawfulBEq α]
theorem sameL_self (a : List α) : sameL a a = true := by simp [sameL]
theorem sameL_eq {a b : List α} (h : a = b) : sameL a b = true := by rw [h]; exact sameL_self b
omit [BEq α] [LawfulBEq α] in
theorem same_take {l l2 : List α} {k : Nat} {x : α} (h : l.take k = l2.take k) (hx : l[k]? = some x) (hy : l2[k]? = some x) : Hid (l.take (k + 1) = l2.take (k + 1)) := by
  show l.take (k + 1) = l2.take (k + 1)
  rw [List.take_add_one, List.take_add_one, hx, hy, h]
theorem same_no {l l2 : List α} {k : Nat} {x y : α} (hx : l[k]? = some x) (hy : l2[k]? = some y) (h : ¬ x = y) : sameL l l2 = false := by
  rw [sameL, beq_eq_false_iff_ne]
  rintro rfl
  rw [hx] at hy
  cases hy
  exact h rfl
theorem same_yes {l l2 : List α} {k : Nat} (h : l.take k = l2.take k) (h1 : l.length = k) (h2 : l2.length = k) : sameL l l2 = true := by
  rw [List.take_of_length_le (by omega), List.take_of_length_le (by omega)] at h
  exact sameL_eq h
end

set_option maxRecDepth 100000 in
set_option maxHeartbeats 1000000 in
theorem SameBytes_any (w : World) (B B2 : Nat) (A A2 : Option Addr) (n c n2 c2 : Nat) (l l2 : List UInt8) (hR : BytesAt w B A n l) (hR2 : BytesAt w B2 A2 n2 l2) (hc : n ≤ maxLen) (hc2 : n2 ≤ maxLen) :
    Calls Try.prog 8 #[.slice A n c, .slice A2 n2 c2] w fun e w' => e = .returned (.bool (sameL l l2)) ∧ ∃ q, w.drewN q = w' := by
  unfold maxLen at hc hc2
  by_cases hn : n = n2
  · subst hn
    have hnb : ((n : Int) == (n : Int)) = true := by simp
    have hl := Lib.hid hR.len
    have hl2 := Lib.hid hR2.len
    go_enter Try.func8, Try.ntmps8
    go_wp2
    go_loopw [5] (fun v5 wr => ∃ k q : Nat, k ≤ n ∧ v5 = .int .i64 (k : Int) ∧ Hid (l.take k = l2.take k) ∧ w.drewN q = wr) (fun v5 _ => n - (intOf v5).toNat)
    case atStart => exact ⟨0, 0, by omega, rfl, by simp [Hid], rfl⟩
    case round =>
      obtain ⟨k, q, hk, rfl, hs, rfl⟩ := hrel
      by_cases hlt : k < n
      · obtain ⟨b, off, rfl, hb, hcl⟩ := hR.at_ (by omega)
        obtain ⟨b2, off2, rfl, hb2, hcl2⟩ := hR2.at_ (by omega)
        obtain ⟨x, hx⟩ : ∃ x, l[k]? = some x := ⟨_, List.getElem?_eq_getElem (by rw [hl.out]; exact hlt)⟩
        obtain ⟨y, hy⟩ : ∃ y, l2[k]? = some y := ⟨_, List.getElem?_eq_getElem (by rw [hl2.out]; exact hlt)⟩
        have hcx := hcl k x hx
        have hcy := hcl2 k y hy
        have Hx := Lib.hid hx
        have Hy := Lib.hid hy
        clear hcl hcl2 hx hy
        by_cases hxy : x = y
        · subst hxy
          have hne : ((x.toNat : Int) == (x.toNat : Int)) = true := by simp
          go_wp2_with fail
          go_quiet (fail)
          go_wp2
          go_roundw
          case rel => exact ⟨k + 1, _, by omega, by go_num, same_take hs.out Hx.out Hy.out, rfl⟩
          case measure => simp [intOf]; omega
        · have hne : ((x.toNat : Int) == (y.toNat : Int)) = false := by rw [beq_eq_false_iff_ne]; intro h; exact hxy (UInt8.toNat_inj.1 (by omega))
          have Hxy := Lib.hid hxy
          clear hxy
          go_wp2_with fail
          go_quiet (fail)
          go_wp2
          go_ret
          exact ⟨ret_bool (same_no Hx.out Hy.out Hxy.out).symm, _, (World.drewN_drewN _ _ _).symm⟩
      · obtain rfl : k = n := by omega
        go_wp2
        go_ret
        exact ⟨ret_bool (same_yes hs.out hl.out hl2.out).symm, _, rfl⟩
  · have hnb : ((n : Int) == (n2 : Int)) = false := by rw [beq_eq_false_iff_ne]; omega
    have hfin : sameL l l2 = false := by
      rw [sameL, beq_eq_false_iff_ne]
      rintro rfl
      exact hn (hR.len.symm.trans hR2.len)
    have Hn := Lib.hid hn
    have Hf := Lib.hid hfin
    clear hn hfin
    go_enter Try.func8, Try.ntmps8
    go_wp2
    go_ret
    exact ⟨ret_bool Hf.out.symm, 0, rfl⟩

end Go.Proofs.Ytbbjeokecgnfpaa
