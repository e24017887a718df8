/-
  The walk of the document's Reader.Number.
-/
import Derived.Deep.LoopGhost
import Derived.Deep.DeepCutAuto
import Derived.Deep.CutRange
import Derived.Test.YtbbjeokecgnfpaaGreatDNext
import Derived.Test.YtbbjeokecgnfpaaGreatRNumber
namespace Go.Proofs.YtbbjeokecgnfpaaGreat
open Go.RowKit WireM

/-- how it stands at the head of the loop: j bytes have been gone through -/
structure DNum (w : World) (g : Nat) (A : Option Addr) (n c : Nat) (L : List UInt8) (st0 : St) (j acc : Nat) (W : World) : Prop where
  rd : ∃ at_ bad, Rdd W g A n c L at_ bad ∧ rdS st0 = (ddSt L at_ bad).bind fun l => (WireM.rd (7 * j) l).map fun p => (acc + p.1, p.2)
  keep : Keep (Own1 g) w W
  j6 : j ≤ 6
  acc : acc < 2 ^ (7 * j)
theorem ddSt_none {L : List UInt8} {at_ : Nat} {bad : Bool} (h : ddSt L at_ bad = none) : bad = true := by
  cases bad with
  | true => rfl
  | false => cases h
theorem ddSt_some {L l : List UInt8} {at_ : Nat} {bad : Bool} (h : ddSt L at_ bad = some l) : bad = false ∧ L.drop at_ = l := by
  cases bad with
  | true => cases h
  | false =>
    injection h with h
    exact ⟨rfl, h⟩
theorem join_val2 (acc s x : Nat) (hs : s ≤ 35) (ha : acc < 2 ^ s) : wrap64 ((acc : Int) + wrap64 ((x : Int) % 128 * 2 ^ s)) = ((acc + x % 128 * 2 ^ s : Nat) : Int) := by
  have h2 := join_lt s x hs
  have h3 : 2 ^ s ≤ 2 ^ 35 := Nat.pow_le_pow_right (by omega) hs
  have e2 : (x : Int) % 128 * 2 ^ s = ((x % 128 * 2 ^ s : Nat) : Int) := by
    rw [Int.natCast_mul, Int.natCast_pow]
    rfl
  rw [e2]
  generalize x % 128 * 2 ^ s = Y at *
  rw [IntWalk.wrap64_in (Y : Int) (by omega), IntWalk.wrap64_in _ (by omega)]
  omega

set_option maxRecDepth 100000 in
set_option maxHeartbeats 4000000 in
theorem dNumber_any (w : World) (g : Nat) (A : Option Addr) (n c : Nat) (L : List UInt8) (at0 : Nat) (bad0 : Bool) (most : Int) (h0 : Rdd w g A n c L at0 bad0) :
    Calls Tryz.prog 82 #[.pointer (some ⟨g, 0, none⟩), .int .i64 most] w fun e w' => e = .returned (.int .i64 ((num most (ddSt L at0 bad0)).1 : Nat)) ∧ RddAt w g A n c L (num most (ddSt L at0 bad0)).2 w' := by
  obtain ⟨r, hr⟩ : ∃ r, r = num most (ddSt L at0 bad0) := ⟨_, rfl⟩
  rw [← hr]
  have Hr := Lib.hid hr
  clear hr
  obtain ⟨st0, hst0⟩ : ∃ st0, st0 = ddSt L at0 bad0 := ⟨_, rfl⟩
  rw [← hst0] at Hr
  have hS0 : DNum w g A n c L st0 0 0 w := ⟨⟨at0, bad0, h0, by rw [← hst0]; unfold rdS; cases st0 <;> simp⟩, Keep.refl _ _, by omega, by simp⟩
  have fail : ∀ W at_, Rdd W g A n c L at_ true → Keep (Own1 g) w W → rdS st0 = none → (.returned (.int .i64 0) : Ending) = .returned (.int .i64 (r.1 : Nat)) ∧ RddAt w g A n c L r.2 W := fun W at_ h hk h1 => by
    rw [Hr.out, num_none h1]
    exact ⟨rfl, at_, true, h, rfl, hk⟩
  have Fail := Lib.hid fail
  clear fail hst0 h0
  go_enter Tryz.func82, Tryz.ntmps82
  go_wp2
  go_loopw [5, 6] (fun v5 v6 wr => ∃ j acc : Nat, v5 = .int .i64 (acc : Int) ∧ v6 = .int .i64 ((7 * j : Nat) : Int) ∧ DNum w g A n c L st0 j acc wr) (fun _ v6 _ => 49 - (intOf v6).toNat)
  case atStart => exact ⟨0, 0, rfl, rfl, hS0⟩
  case round =>
    clear hS0
    obtain ⟨j, acc, rfl, rfl, hI⟩ := hrel
    obtain ⟨⟨at_, bad, hd, he⟩, hkw, hj6, hacc⟩ := hI
    have He := Lib.hid he
    clear he
    obtain ⟨s, hs⟩ : ∃ s, s = 7 * j := ⟨_, rfl⟩
    rw [← hs]
    have Hs := Lib.hid hs
    have hs42 : s ≤ 42 := by omega
    clear hs
    have hnx := dnext_any wr g A n c L at_ bad hd
    obtain ⟨st, hst⟩ : ∃ st, st = ddSt L at_ bad := ⟨_, rfl⟩
    rw [← hst] at hnx He
    clear hst hd
    by_cases hn : ∃ x l, st = some (x :: l)
    · obtain ⟨x, l, rfl⟩ := hn
      rw [nextOf] at hnx
      have Hnx := Lib.hid hnx
      clear hnx
      have hxl : x.toNat < 256 := x.toNat_lt
      go_wp2_with fail
      refine Hnx.out.mono ?_
      rintro e w1 ⟨rfl, at1, bad1, hd1, hs1, hk1⟩
      obtain ⟨rfl, hs2⟩ := ddSt_some hs1
      have hc2 := hd1.cell.cell 2
      have hf2 := hd1.cell.frozen 2
      have hkx := hkw.trans' hk1
      have hm := hd1.mark true
      have Hm := Lib.hid hm
      have hkm := hkx.trans' hm.2
      have Hrd := Lib.hid (show rdS st0 = (if 35 < s ∨ (0 < s ∧ x.toNat = 0) then none else if x.toNat < 128 then some (x.toNat * 2 ^ s, l) else (WireM.rd (s + 7) l).map fun p => (x.toNat % 128 * 2 ^ s + p.1, p.2)).map fun p => (acc + p.1, p.2) by
        rw [He.out, Option.bind, ← Hs.out, WireM.rd])
      clear hm hkw hk1
      by_cases h35 : 35 < s
      · have hz := Lib.hid (show rdS st0 = none by rw [Hrd.out, if_pos (Or.inl h35)]; rfl)
        have d1 : decide ((35 : Int) < (s : Int)) = true := decide_eq_true (by omega)
        go_wp2
        go_ret
        exact Fail.out _ _ Hm.out.1 hkm hz.out
      · have d1 : decide ((35 : Int) < (s : Int)) = false := decide_eq_false (by omega)
        by_cases hx0 : x.toNat = 0
        · by_cases hs0 : 0 < s
          · have hz := Lib.hid (show rdS st0 = none by rw [Hrd.out, if_pos (Or.inr ⟨hs0, hx0⟩)]; rfl)
            have d2 : decide ((0 : Int) < (s : Int)) = true := decide_eq_true (by omega)
            have d3 : ((x.toNat : Int) == 0) = true := by simp [hx0]
            have Hx0 := Lib.hid hx0
            clear hx0
            go_wp2
            go_ret
            exact Fail.out _ _ Hm.out.1 hkm hz.out
          · have d2 : decide ((0 : Int) < (s : Int)) = false := decide_eq_false (by omega)
            have d3 : ((x.toNat : Int) == 0) = true := by simp [hx0]
            have hok : ¬ (35 < s ∨ (0 < s ∧ x.toNat = 0)) := by omega
            clear hx0
            have hrd2 := Lib.hid (show rdS st0 = (if x.toNat < 128 then some (x.toNat * 2 ^ s, l) else (WireM.rd (s + 7) l).map fun p => (x.toNat % 128 * 2 ^ s + p.1, p.2)).map fun p => (acc + p.1, p.2) by rw [Hrd.out, if_neg hok])
            have hacc2 : acc < 2 ^ s := by rw [Hs.out]; exact hacc
            have Hv := Lib.hid (join_val2 acc s x.toNat (by omega) hacc2)
            have hj := join_lt s x.toNat (by omega)
            have hp35 : 2 ^ s ≤ 2 ^ 35 := Nat.pow_le_pow_right (by omega) (by omega)
            obtain ⟨N, hN⟩ : ∃ N, N = acc + x.toNat % 128 * 2 ^ s := ⟨_, rfl⟩
            have hNlt : N < 8796093022208 := by omega
            have HN := Lib.hid hN
            have Hac := Lib.hid hacc2
            clear hN hj hp35 hacc2 hacc
            have hst7 : (s : Int).toNat = s := by omega
            by_cases hx : x.toNat < 128
            · have hxi : (x.toNat : Int) < 128 := by omega
              have Hsome := Lib.hid (show rdS st0 = some (N, l) by rw [hrd2.out, if_pos hx, HN.out, Nat.mod_eq_of_lt hx]; rfl)
              clear hx
              go_upto_region 9 with (fail)
              rw [Hv.out, ← HN.out]
              by_cases h1 : (N : Int) ≤ most
              · have d4 : decide (most < (N : Int)) = false := decide_eq_false (by omega)
                by_cases h2 : N ≤ 1099511627776
                · have d5 : decide ((1099511627776 : Int) < (N : Int)) = false := decide_eq_false (by omega)
                  have hnum := Lib.hid (show r = (N, some l) by rw [Hr.out, num_some Hsome.out, if_pos (by simp only [maxNum]; omega)])
                  go_wp2
                  go_ret
                  rw [hnum.out]
                  exact ⟨rfl, at1, false, hd1, by show some (L.drop at1) = _; rw [hs2], hkx⟩
                · have d5 : decide ((1099511627776 : Int) < (N : Int)) = true := decide_eq_true (by omega)
                  have hnum := Lib.hid (show r = (0, none) by rw [Hr.out, num_some Hsome.out, if_neg (by simp only [maxNum]; omega)])
                  go_wp2
                  go_ret
                  rw [hnum.out]
                  exact ⟨rfl, at1, true, Hm.out.1, rfl, hkm⟩
              · have d4 : decide (most < (N : Int)) = true := decide_eq_true (by omega)
                have hnum := Lib.hid (show r = (0, none) by rw [Hr.out, num_some Hsome.out, if_neg (by simp only [maxNum]; omega)])
                go_wp2
                go_ret
                rw [hnum.out]
                exact ⟨rfl, at1, true, Hm.out.1, rfl, hkm⟩
            · have hxi : ¬ (x.toNat : Int) < 128 := by omega
              go_wp2
              rw [Hv.out, ← HN.out]
              go_roundw
              case rel =>
                have hs := Hs.out
                refine ⟨j + 1, N, rfl, by rw [hs]; go_num, ⟨⟨at1, false, hd1, ?_⟩, hkx, by omega, ?_⟩⟩
                · rw [hrd2.out, if_neg hx, HN.out]
                  show _ = (some (L.drop at1)).bind _
                  rw [hs2, Option.bind, show 7 * (j + 1) = s + 7 by omega, Option.map_map]
                  congr 1
                  funext p
                  simp [Nat.add_assoc]
                · have h5 : x.toNat % 128 * 2 ^ s ≤ 127 * 2 ^ s := Nat.mul_le_mul_right _ (by omega)
                  have h6 : 2 ^ (7 * (j + 1)) = 128 * 2 ^ s := by rw [show 7 * (j + 1) = 7 + s by omega, Nat.pow_add]
                  have h7 := Hac.out
                  rw [HN.out]
                  omega
              case measure => simp [intOf]; omega
        · have d3 : ((x.toNat : Int) == 0) = false := by rw [beq_eq_false_iff_ne]; omega
          have hok : ¬ (35 < s ∨ (0 < s ∧ x.toNat = 0)) := by omega
          clear hx0
          have hrd2 := Lib.hid (show rdS st0 = (if x.toNat < 128 then some (x.toNat * 2 ^ s, l) else (WireM.rd (s + 7) l).map fun p => (x.toNat % 128 * 2 ^ s + p.1, p.2)).map fun p => (acc + p.1, p.2) by rw [Hrd.out, if_neg hok])
          have hacc2 : acc < 2 ^ s := by rw [Hs.out]; exact hacc
          have Hv := Lib.hid (join_val2 acc s x.toNat (by omega) hacc2)
          have hj := join_lt s x.toNat (by omega)
          have hp35 : 2 ^ s ≤ 2 ^ 35 := Nat.pow_le_pow_right (by omega) (by omega)
          obtain ⟨N, hN⟩ : ∃ N, N = acc + x.toNat % 128 * 2 ^ s := ⟨_, rfl⟩
          have hNlt : N < 8796093022208 := by omega
          have HN := Lib.hid hN
          have Hac := Lib.hid hacc2
          clear hN hj hp35 hacc2 hacc
          have hst7 : (s : Int).toNat = s := by omega
          by_cases hx : x.toNat < 128
          · have hxi : (x.toNat : Int) < 128 := by omega
            have Hsome := Lib.hid (show rdS st0 = some (N, l) by rw [hrd2.out, if_pos hx, HN.out, Nat.mod_eq_of_lt hx]; rfl)
            clear hx
            go_upto_region 9 with (fail)
            rw [Hv.out, ← HN.out]
            by_cases h1 : (N : Int) ≤ most
            · have d4 : decide (most < (N : Int)) = false := decide_eq_false (by omega)
              by_cases h2 : N ≤ 1099511627776
              · have d5 : decide ((1099511627776 : Int) < (N : Int)) = false := decide_eq_false (by omega)
                have hnum := Lib.hid (show r = (N, some l) by rw [Hr.out, num_some Hsome.out, if_pos (by simp only [maxNum]; omega)])
                go_wp2
                go_ret
                rw [hnum.out]
                exact ⟨rfl, at1, false, hd1, by show some (L.drop at1) = _; rw [hs2], hkx⟩
              · have d5 : decide ((1099511627776 : Int) < (N : Int)) = true := decide_eq_true (by omega)
                have hnum := Lib.hid (show r = (0, none) by rw [Hr.out, num_some Hsome.out, if_neg (by simp only [maxNum]; omega)])
                go_wp2
                go_ret
                rw [hnum.out]
                exact ⟨rfl, at1, true, Hm.out.1, rfl, hkm⟩
            · have d4 : decide (most < (N : Int)) = true := decide_eq_true (by omega)
              have hnum := Lib.hid (show r = (0, none) by rw [Hr.out, num_some Hsome.out, if_neg (by simp only [maxNum]; omega)])
              go_wp2
              go_ret
              rw [hnum.out]
              exact ⟨rfl, at1, true, Hm.out.1, rfl, hkm⟩
          · have hxi : ¬ (x.toNat : Int) < 128 := by omega
            go_wp2
            rw [Hv.out, ← HN.out]
            go_roundw
            case rel =>
              have hs := Hs.out
              refine ⟨j + 1, N, rfl, by rw [hs]; go_num, ⟨⟨at1, false, hd1, ?_⟩, hkx, by omega, ?_⟩⟩
              · rw [hrd2.out, if_neg hx, HN.out]
                show _ = (some (L.drop at1)).bind _
                rw [hs2, Option.bind, show 7 * (j + 1) = s + 7 by omega, Option.map_map]
                congr 1
                funext p
                simp [Nat.add_assoc]
              · have h5 : x.toNat % 128 * 2 ^ s ≤ 127 * 2 ^ s := Nat.mul_le_mul_right _ (by omega)
                have h6 : 2 ^ (7 * (j + 1)) = 128 * 2 ^ s := by rw [show 7 * (j + 1) = 7 + s by omega, Nat.pow_add]
                have h7 := Hac.out
                rw [HN.out]
                omega
            case measure => simp [intOf]; omega
    · have hz : nextOf st = (0, none) ∧ rdS st0 = none := by
        match st, hn with
        | none, _ => exact ⟨rfl, by rw [He.out]; rfl⟩
        | some [], _ => exact ⟨rfl, by rw [He.out]; rfl⟩
        | some (x :: l), hn => exact absurd ⟨x, l, rfl⟩ hn
      rw [hz.1] at hnx
      have Hnx := Lib.hid hnx
      have Hz := Lib.hid hz.2
      clear hnx hz hn
      go_wp2_with fail
      refine Hnx.out.mono ?_
      rintro e w1 ⟨rfl, at1, bad1, hd1, hs1, hk1⟩
      obtain rfl := ddSt_none hs1
      have hc2 := hd1.cell.cell 2
      have hf2 := hd1.cell.frozen 2
      have hm := hd1.mark true
      have Hm := Lib.hid hm
      have hkm := (hkw.trans' hk1).trans' hm.2
      clear hm
      go_wp2
      go_ret
      exact Fail.out _ _ Hm.out.1 hkm Hz.out
end Go.Proofs.YtbbjeokecgnfpaaGreat
