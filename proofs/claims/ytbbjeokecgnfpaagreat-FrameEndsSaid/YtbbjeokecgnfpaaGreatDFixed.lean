/-
  The walk of the document's Reader.Fixed.
-/
import Derived.Test.YtbbjeokecgnfpaaGreatDNumber
import Derived.Test.YtbbjeokecgnfpaaGreatBaseF
namespace Go.Proofs.YtbbjeokecgnfpaaGreat
open Go.RowKit WireM

/-- k bytes more -/
def stN : St → Nat → St
  | none, _ => none
  | some l, k => if k ≤ l.length then some (l.drop k) else none
def byteN (l : List UInt8) (k : Nat) : Nat := match l[k]? with
  | some x => x.toNat
  | none => 0
theorem stN_zero (st : St) : stN st 0 = st := by cases st <;> simp [stN]
def byteS (st : St) (k : Nat) : Nat := match stN st k with
  | none => 0
  | some _ => byteN (told st) k
theorem stN_next (st : St) (k : Nat) : nextOf (stN st k) = (byteS st k, stN st (k + 1)) := by
  cases st with
  | none => rfl
  | some l =>
    unfold byteS
    by_cases h : k ≤ l.length
    · have e : stN (some l) k = some (l.drop k) := if_pos h
      rw [e]
      by_cases h2 : k < l.length
      · have e2 : stN (some l) (k + 1) = some (l.drop (k + 1)) := if_pos h2
        rw [e2, List.drop_eq_getElem_cons h2, nextOf]
        simp only [byteN, told, List.getElem?_eq_getElem h2]
      · have e2 : stN (some l) (k + 1) = none := if_neg (by omega)
        obtain rfl : k = l.length := by omega
        rw [e2, List.drop_length]
        simp only [nextOf, byteN, told, List.getElem?_eq_none (Nat.le_refl _)]
    · have e : stN (some l) k = none := if_neg h
      have e2 : stN (some l) (k + 1) = none := if_neg (by omega)
      rw [e, e2]
      rfl
theorem byteS_lt (st : St) (k : Nat) : byteS st k < 256 := by
  unfold byteS
  split
  · omega
  · unfold byteN
    split
    · exact UInt8.toNat_lt _
    · omega
theorem byteS_some {st : St} {k : Nat} (h : stN st k ≠ none) : byteS st k = byteN (told st) k := by
  unfold byteS
  split
  · rename_i h2
    exact absurd h2 h
  · rfl
theorem little_take (l : List UInt8) (k : Nat) : little (l.take (k + 1)) = little (l.take k) + byteN l k * 2 ^ (8 * k) := by
  unfold byteN
  cases h : l[k]? with
  | none =>
    rw [List.take_add_one, h]
    simp
  | some x =>
    have hk := (List.getElem?_eq_some_iff.1 h).1
    rw [List.take_add_one, h, show (some x).toList = [x] from rfl, little_snoc, List.length_take, Nat.min_eq_left (by omega)]
theorem fixed_stN (st : St) : fixed st = match stN st 4 with
  | none => (0, none)
  | some l => (little ((told st).take 4), some l) := by
  match st with
  | none => rfl
  | some [] | some [_] | some [_, _] | some [_, _, _] => rfl
  | some (a :: b :: c :: d :: l) =>
    have h : stN (some (a :: b :: c :: d :: l)) 4 = some l := by simp [stN]
    rw [h, fixed_long]
    simp only [told, List.take_succ_cons, List.take_zero, little]
    congr 1
    omega

set_option maxRecDepth 100000 in
set_option maxHeartbeats 4000000 in
theorem dFixed_any (w : World) (g : Nat) (A : Option Addr) (n c : Nat) (L : List UInt8) (at0 : Nat) (bad0 : Bool) (h0 : Rdd w g A n c L at0 bad0) :
    Calls Tryz.prog 41 #[.pointer (some ⟨g, 0, none⟩)] w fun e w' => e = .returned (.int .u32 ((fixed (ddSt L at0 bad0)).1 : Nat)) ∧ RddAt w g A n c L (fixed (ddSt L at0 bad0)).2 w' := by
  obtain ⟨r, hr⟩ : ∃ r, r = fixed (ddSt L at0 bad0) := ⟨_, rfl⟩
  rw [← hr]
  obtain ⟨st0, hst0⟩ : ∃ st0, st0 = ddSt L at0 bad0 := ⟨_, rfl⟩
  rw [← hst0] at hr
  have Hr := Lib.hid hr
  have Hst0 := Lib.hid hst0
  clear hr hst0
  go_enter Tryz.func41, Tryz.ntmps41
  go_wp2
  go_loopw [3, 4] (fun v3 v4 wr => ∃ (k acc at_ : Nat) (bad : Bool), k ≤ 4 ∧ v4 = .int .i64 (k : Int) ∧ v3 = .int .u32 (acc : Int) ∧ acc < 2 ^ (8 * k) ∧ Rdd wr g A n c L at_ bad ∧ Keep (Own1 g) w wr ∧ Hid (ddSt L at_ bad = stN st0 k) ∧ Hid (stN st0 k ≠ none → acc = little ((told st0).take k))) (fun _ v4 _ => 4 - (intOf v4).toNat)
  case atStart => exact ⟨0, 0, at0, bad0, by omega, rfl, rfl, by simp, h0, Keep.refl _ _, by show _ = _; rw [stN_zero]; exact Hst0.out.symm, fun _ => by simp [little]⟩
  case round =>
    clear h0
    obtain ⟨k, acc, at_, bad, hk, rfl, rfl, hacc, hd, hkw, hst, hac⟩ := hrel
    by_cases hk4 : k < 4
    · have hnx := dnext_any wr g A n c L at_ bad hd
      rw [hst.out, stN_next] at hnx
      obtain ⟨y, hy⟩ : ∃ y, y = byteS st0 k := ⟨_, rfl⟩
      have hyl : y < 256 := by rw [hy]; exact byteS_lt _ _
      rw [← hy] at hnx
      have Hnx := Lib.hid hnx
      have Hy := Lib.hid hy
      have Hj := Lib.hid (join32 acc k y hk4 hacc hyl)
      have hacc2 : acc + y * 2 ^ (8 * k) < 2 ^ (8 * (k + 1)) := by
        rw [show 8 * (k + 1) = 8 + 8 * k by omega, Nat.pow_add]
        have : y * 2 ^ (8 * k) ≤ 255 * 2 ^ (8 * k) := Nat.mul_le_mul_right _ (by omega)
        omega
      have Hacc2 := Lib.hid hacc2
      have hk8 : (8 * (k : Int)).toNat = 8 * k := by omega
      clear hnx hy hd hacc hacc2
      go_wp2_with fail
      refine Hnx.out.mono ?_
      rintro e w1 ⟨rfl, at1, bad1, hd1, hs1, hk1⟩
      have Hs1 := Lib.hid hs1
      clear hs1
      go_wp2
      go_roundw
      case rel =>
        refine ⟨k + 1, acc + y * 2 ^ (8 * k), at1, bad1, by omega, by go_num, ?_, Hacc2.out, hd1, hkw.trans' hk1, Hs1, ?_⟩
        · rw [← Hj.out, Int.emod_eq_of_lt (show (0 : Int) ≤ (y : Int) by omega) (by omega)]
        · intro hne
          have hne0 : stN st0 k ≠ none := fun h => by
            apply hne
            cases st0 with
            | none => rfl
            | some l =>
              simp only [stN] at h ⊢
              split at h
              · cases h
              · rw [if_neg (by omega)]
          rw [little_take, hac.out hne0, Hy.out, byteS_some hne0]
      case measure => simp [intOf]; omega
    · obtain rfl : k = 4 := by omega
      have hc2 := hd.cell.cell 2
      cases bad with
      | true =>
        have hz : stN st0 4 = none := by rw [← hst.out]; rfl
        have hrr : r = (0, none) := by rw [Hr.out, fixed_stN, hz]
        have Hrr := Lib.hid hrr
        clear hz hrr
        go_wp2
        go_ret
        rw [Hrr.out]
        exact ⟨rfl, at_, true, hd, rfl, hkw⟩
      | false =>
        have hz : stN st0 4 = some (L.drop at_) := by rw [← hst.out]; rfl
        have hrr : r = (acc, some (L.drop at_)) := by rw [Hr.out, fixed_stN, hz, hac.out (by rw [hz]; simp)]
        have Hrr := Lib.hid hrr
        clear hz hrr
        go_wp2
        go_ret
        rw [Hrr.out]
        exact ⟨rfl, at_, false, hd, rfl, hkw⟩
end Go.Proofs.YtbbjeokecgnfpaaGreat
