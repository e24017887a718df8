/-
  The walk of wire's Reader.Rising.
-/
import Derived.Test.YtcimkoehcdfjdaaGreatDoorBaseF
import Derived.Test.YtcimkoehcdfjdaaGreatDoorWRising
import Derived.Test.YtcimkoehcdfjdaaGreatDoorWireRise
import Derived.WalkMore
namespace Go.Proofs.YtcimkoehcdfjdaaGreatDoor
open Go.RowKit WireM

structure RiseR (w : World) (g : Nat) (len : Nat) (most : Int) (T : List Nat × St) (k last : Nat) (rs : List Nat) (row : Value) (W : World) : Prop where
 rd : ∃ A n c l bad, Rd W g A n c l bad ∧ (bad = true → k = 0 ∧ T = ([], none)) ∧ (bad = false → T = riseT most k last (some l) rs) ∧ rs.length + l.length ≤ len
 keep : Keep (Own1 g) w W
 own : W.ownsRow w.heap.size 3 1 row rs.length (rs.map fun n : Nat => .int .i64 (n : Int))
 last : last ≤ 1099511627777
 kle : k ≤ 1099511627776

set_option maxRecDepth 100000 in
set_option maxHeartbeats 4000000 in
theorem RRising_any (w : World) (g : Nat) (A : Option Addr) (n c : Nat) (l : List UInt8) (bad : Bool) (many most : Int) (h0 : Rd w g A n c l bad) (hl : l.length ≤ 17592186044416) :
  Calls Tryz.prog 98 #[.pointer (some ⟨g, 0, none⟩), .int .i64 many, .int .i64 most] w fun e w' => ∃ r B, e = .returned r ∧ w.heap.size ≤ B ∧ w'.ownsRow B 3 1 r (rising many most (stOf l bad)).1.length ((rising many most (stOf l bad)).1.map fun n : Nat => .int .i64 (n : Int)) ∧ RdAt w g (rising many most (stOf l bad)).2 l.length w' := by
 have intsTy : AppTy Tryz.prog 49 3 (.int .i64 0) 1 8 := AppTy.mk' Tryz.underlying49 (by kernel_rfl) rfl (by decide)
 obtain ⟨T, hT⟩ : ∃ T, T = rising many most (stOf l bad) := ⟨_, rfl⟩
 obtain ⟨N, hN⟩ : ∃ N, N = num many (stOf l bad) := ⟨_, rfl⟩
 rw [← hT]
 go_enter Tryz.func98, Tryz.ntmps98
 have HT := Lib.hid hT
 have HN := Lib.hid hN
 clear hT hN
 go_wp2_with fail
 go_step3
 go_wp2_with fail
 go_step3
 go_wp2_with fail
 have hT := HT.out
 have hN := HN.out
 have hnum := RNumber_any w g A n c l bad many h0
 rw [← hN] at hnum
 refine hnum.mono ?_
 rintro e w1 ⟨rfl, A1, n1, c1, l1, b1, hd1, hs1, hl1, hk1⟩
 obtain ⟨m, st⟩ := N
 obtain rfl : stOf l1 b1 = st := hs1
 have hmle : m ≤ 1099511627776 := by have := num_most many (stOf l bad); rw [← hN] at this; exact this
 have hm0 : b1 = true → m = 0 ∧ T = ([], none) := fun h => by
  subst h
  exact ⟨num_fail hN.symm, by rw [hT]; exact rising_none hN.symm⟩
 have hT1 : b1 = false → T = riseT most m 0 (some l1) [] := fun h => by
  subst h
  rw [hT]
  exact rising_T hN.symm
 have hS0 : RiseR w g l.length most T m 0 [] (.slice none 0 0) w1 := ⟨⟨A1, n1, c1, l1, b1, hd1, hm0, hT1, by simpa using hl1⟩, hk1, World.ownsRow_nil _ _ _ _, by omega, hmle⟩
 have hg0 := h0.cell.lt
 clear hT hN HT HN hnum h0 hd1 hm0 hT1 hk1 hl1
 go_wp2_with fail
 go_loopw [6, 7, 8] (fun v6 v7 v8 wr => ∃ (k last : Nat) (rs : List Nat), v8 = .int .i64 (k : Int) ∧ v7 = .int .i64 ((last : Int) - 1) ∧ RiseR w g l.length most T k last rs v6 wr) (fun _ _ v8 _ => (intOf v8).toNat)
 case atStart => exact ⟨m, 0, [], rfl, rfl, hS0⟩
 case round =>
  clear hS0
  obtain ⟨k, last, rs, rfl, rfl, ⟨A2, n2, c2, l2, b2, hd2, hb2, ht2, hll2⟩, hk2, hown, hlast, hkle⟩ := hrel
  cases k with
  | zero =>
   have hc1 := hd2.cell.cell 1
   cases b2 with
   | true =>
    obtain ⟨-, rfl⟩ := hb2 rfl
    go_wp2
    go_ret
    exact ⟨_, rfl, w.heap.size, Nat.le_refl _, World.ownsRow_nil _ _ _ _, A2, n2, c2, l2, true, hd2, rfl, by omega, hk2⟩
   | false =>
    obtain rfl : T = (rs, some l2) := (ht2 rfl).trans (riseT_zero most last l2 rs)
    go_wp2
    go_ret
    exact ⟨u6, rfl, w.heap.size, Nat.le_refl _, hown, A2, n2, c2, l2, false, hd2, rfl, by omega, hk2⟩
  | succ k =>
   have hbf : b2 = false := by
    cases b2 with
    | false => rfl
    | true => have := (hb2 rfl).1; omega
   subst hbf
   have HT2 := Lib.hid (ht2 rfl)
   clear hb2 ht2
   go_wp2_with fail
   obtain ⟨N, hN⟩ : ∃ N, N = num (maxNum : Int) (some l2) := ⟨_, rfl⟩
   have hnum := RNumber_any wr g A2 n2 c2 l2 false ((maxNum : Nat) : Int) hd2
   rw [stOf_false, ← hN] at hnum
   have hNle : N.1 ≤ 1099511627776 := by rw [hN]; exact num_most _ _
   have HN := Lib.hid hN
   clear hN
   refine Calls.mono (show Calls _ _ #[_, .int .i64 1099511627776] _ _ from hnum) ?_
   rintro e w2 ⟨rfl, A3, n3, c3, l3, b3, hd3, hs3, hl3, hk3⟩
   clear hnum
   obtain ⟨m2, st2⟩ := N
   obtain rfl : stOf l3 b3 = st2 := hs3
   have hNle2 : m2 ≤ 1099511627776 := hNle
   clear hNle
   obtain ⟨X, hX⟩ : ∃ X : Int, X = (last : Int) - 1 + (1 + (m2 : Int)) := ⟨_, rfl⟩
   obtain ⟨is, his⟩ : ∃ is, is = (decide (X ≤ most) && fitsB [X]) := ⟨_, rfl⟩
   obtain ⟨b4, hb4⟩ : ∃ b4, b4 = (b3 || !is) := ⟨_, rfl⟩
   have HX := Lib.hid hX
   have His := Lib.hid his
   have Hb4 := Lib.hid hb4
   have hS : ∀ q, Own1 g q → q < w2.heap.size := fun q hq => by rw [show q = g from hq]; exact hd3.cell.lt
   clear hX his hb4
   go_upto_region 8 with (fail)
   rw [← HX.out]
   go_cut [23] from 23 to 34 (fun v23 wx => v23 = .pointer (some ⟨g, 0, none⟩) ∧ Rd wx g A3 n3 c3 l3 b4 ∧ Keep (Own1 g) w2 wx)
   case first Jx Kx hJ hM =>
    refine wp_region_stages (by kernel_rfl) ?_
    by_cases hle0 : X ≤ most
    ·have d5 : decide (X ≤ most) = true := decide_eq_true hle0
     have Hf := Lib.hid (show fitsB [X] = is by rw [His.out, d5]; rfl)
     clear hle0
     refine anyOrder_start [11] (Keep (Own1 g)) (mustW w2 g A3 n3 c3 l3 b3 (b3 || !is)) (FactsOn [.is (.pointer (some ⟨g, 0, none⟩)), .is (.pointer (some ⟨g, 0, none⟩)), .is (.pointer (some ⟨g, 0, none⟩)), .is (.int .i64 X), .is (.int .i64 most), .is (.bool true), .is (.bool true), .is (.int .i64 X), .new1 w2.heap.size hS 3 (.int .i64 X), .is (.bool is), .is (.bool is), .any]) (fun i => 99) keep_trans keep_grow (mustW.grow) (factsOn_mono _) (by kernel_rfl) (by kernel_rfl) ⟨hd3, Keep.refl _ _⟩ ?_ ?_
     ·refine ⟨?_, ?_, ?_, ?_, ?_, ?_, ?_, ?_, ?_, ?_, ?_, ?_, trivial⟩
      ·refine sF rfl rfl ?_
       intro us vals w3 a' ha hle hW hd hv K hK
       have q0 : a'.tmps[0]? = some (.pointer (some ⟨g, 0, none⟩)) := by rw [ha.out]; kernel_rfl
       exact sV hK rfl
      ·refine sF rfl rfl ?_
       intro us vals w3 a' ha hle hW hd hv K hK
       obtain ⟨d0, _⟩ := hd
       have q23 : a'.tmps[23]? = some (us 0) := by rw [ha.out]; kernel_rfl
       rw [show us 0 = .pointer (some ⟨g, 0, none⟩) from d0] at q23
       exact sV (v := .pointer (some ⟨g, 0, none⟩)) hK rfl
      ·refine sF rfl rfl ?_
       intro us vals w3 a' ha hle hW hd hv K hK
       obtain ⟨d1, _⟩ := hd
       have q24 : a'.tmps[24]? = some (us 1) := by rw [ha.out]; kernel_rfl
       rw [show us 1 = .pointer (some ⟨g, 0, none⟩) from d1] at q24
       exact sV (v := .pointer (some ⟨g, 0, none⟩)) hK rfl
      ·refine sF rfl rfl ?_
       intro us vals w3 a' ha hle hW hd hv K hK
       have q7 : a'.tmps[7]? = some (.int .i64 X) := by rw [ha.out]; kernel_rfl
       exact sV hK rfl
      ·refine sF rfl rfl ?_
       intro us vals w3 a' ha hle hW hd hv K hK
       have q2 : a'.tmps[2]? = some (.int .i64 most) := by rw [ha.out]; kernel_rfl
       exact sV hK rfl
      ·refine sF rfl rfl ?_
       intro us vals w3 a' ha hle hW hd hv K hK
       obtain ⟨d3, d4, _⟩ := hd
       have q26 : a'.tmps[26]? = some (us 3) := by rw [ha.out]; kernel_rfl
       rw [show us 3 = .int .i64 X from d3] at q26
       have q27 : a'.tmps[27]? = some (us 4) := by rw [ha.out]; kernel_rfl
       rw [show us 4 = .int .i64 most from d4] at q27
       exact sV (v := .bool true) hK rfl
      ·refine sF rfl rfl ?_
       intro us vals w3 a' ha hle hW hd hv K hK
       obtain ⟨d5, _⟩ := hd
       have q28 : a'.tmps[28]? = some (us 5) := by rw [ha.out]; kernel_rfl
       rw [show us 5 = .bool true from d5] at q28
       exact sV hK rfl
      ·refine stageOf_free rfl (fun us vals w3 a' ha hd => ?_) ?_
       ·obtain ⟨d6, _⟩ := hd
        have q : a'.tmps[29]? = some (us 6) := by rw [ha.out]; kernel_rfl
        rw [show us 6 = .bool true from d6] at q
        exact wanted_some rfl rfl q
       intro us vals w3 a' ha hle hW hd hv K hK
       have q7 : a'.tmps[7]? = some (.int .i64 X) := by rw [ha.out]; kernel_rfl
       exact sV hK rfl
      ·refine stageOf_free rfl (fun us vals w3 a' ha hd => ?_) ?_
       ·obtain ⟨_, d6, _⟩ := hd
        have q : a'.tmps[29]? = some (us 6) := by rw [ha.out]; kernel_rfl
        rw [show us 6 = .bool true from d6] at q
        exact wanted_some rfl rfl q
       intro us vals w3 a' ha hle hW hd hv K hK
       obtain ⟨d7, _, _⟩ := hd
       have q30 : a'.tmps[30]? = some (us 7) := by rw [ha.out]; kernel_rfl
       rw [show us 7 = .int .i64 X from d7] at q30
       refine step_value (v := .slice (some ⟨w3.heap.size, 0, none⟩) 1 1) (w2 := w3.alloc (.cells #[.int .i64 X] 3)) (by go_simp) (hK _ _ (Grow.alloc _ _) ?_)
       exact ⟨_, rfl, hle.size, Blk.new _ _ _⟩
      ·refine stageOf_free rfl (fun us vals w3 a' ha hd => ?_) ?_
       ·obtain ⟨_, d6, _, _⟩ := hd
        have q : a'.tmps[29]? = some (us 6) := by rw [ha.out]; kernel_rfl
        rw [show us 6 = .bool true from d6] at q
        exact wanted_some rfl rfl q
       intro us vals w3 a' ha hle hW hd hv K hK
       obtain ⟨⟨m8, u8, z8, b8⟩, _, _, _⟩ := hd
       have q31 : a'.tmps[31]? = some (us 8) := by rw [ha.out]; kernel_rfl
       rw [u8] at q31
       refine step_call (f := 61) (args := #[.slice (some ⟨m8, 0, none⟩) 1 1]) (by go_simp) ?_
       refine (fits_is w3 _ _ 1 1 [X] is Hf.out b8.reads1 (by simp only [maxLen]; omega)).mono ?_
       rintro e w4 ⟨rfl, rfl⟩
       exact ⟨_, rfl, hK _ _ (Grow.refl _) rfl⟩
      ·refine sF rfl rfl ?_
       intro us vals w3 a' ha hle hW hd hv K hK
       obtain ⟨d6, d9, _⟩ := hd
       have q29 : a'.tmps[29]? = some (us 6) := by rw [ha.out]; kernel_rfl
       rw [show us 6 = .bool true from d6] at q29
       have q32 : a'.tmps[32]? = some (us 9) := by rw [ha.out]; kernel_rfl
       rw [show us 9 = .bool is from d9] at q32
       exact sV (v := .bool is) hK rfl
      ·refine stageOf_mem (t := 0) rfl ?_
       intro us vals w3 a' ha hle hW hd hv
       obtain ⟨d2, d10, _, _⟩ := hd
       obtain rfl := List.eq_nil_of_length_eq_zero (Nat.le_zero.1 (show vals.length ≤ 0 from Nat.le_of_eq hv))
       refine ⟨wanted_none rfl, fun K hK => ?_⟩
       have q25 : a'.tmps[25]? = some (us 2) := by rw [ha.out]; kernel_rfl
       rw [show us 2 = .pointer (some ⟨g, 0, none⟩) from d2] at q25
       have q33 : a'.tmps[33]? = some (us 10) := by rw [ha.out]; kernel_rfl
       rw [show us 10 = .bool is from d10] at q33
       refine step_call (f := 96) (args := #[.pointer (some ⟨g, 0, none⟩), .bool is]) (by go_simp) ?_
       refine (must_any w3 g A3 n3 c3 l3 b3 is hW.1).mono ?_
       rintro e w4 ⟨rfl, h5, h6⟩
       exact ⟨_, rfl, hK _ _ h6 ⟨h5, hW.2.trans' h6⟩⟩
     ·intro us vals w3 hle hvl hV _ hfa
      obtain ⟨x1, rfl⟩ := List.length_eq_one_iff.1 hvl
      have h23 : us 0 = _ := hfa 0 (by decide) rfl
      exact hM _ _ (Met.intro (hJ _ _ ⟨us 0, us 1, us 2, us 3, us 4, us 5, us 6, us 7, us 8, us 9, us 10, us 11, ⟨h23, by rw [Hb4.out]; exact hV.1, hV.2⟩, by kernel_rfl⟩))
    ·have d5 : decide (X ≤ most) = false := decide_eq_false hle0
     obtain rfl : is = false := by rw [His.out, d5]; rfl
     clear hle0
     refine anyOrder_start [11] (Keep (Own1 g)) (mustW w2 g A3 n3 c3 l3 b3 (b3 || !false)) (FactsOn [.is (.pointer (some ⟨g, 0, none⟩)), .is (.pointer (some ⟨g, 0, none⟩)), .is (.pointer (some ⟨g, 0, none⟩)), .is (.int .i64 X), .is (.int .i64 most), .is (.bool false), .is (.bool false), .is (undef), .is (undef), .is (undef), .is (.bool false), .any]) (fun i => 99) keep_trans keep_grow (mustW.grow) (factsOn_mono _) (by kernel_rfl) (by kernel_rfl) ⟨hd3, Keep.refl _ _⟩ ?_ ?_
     ·refine ⟨?_, ?_, ?_, ?_, ?_, ?_, ?_, ?_, ?_, ?_, ?_, ?_, trivial⟩
      ·refine sF rfl rfl ?_
       intro us vals w3 a' ha hle hW hd hv K hK
       have q0 : a'.tmps[0]? = some (.pointer (some ⟨g, 0, none⟩)) := by rw [ha.out]; kernel_rfl
       exact sV hK rfl
      ·refine sF rfl rfl ?_
       intro us vals w3 a' ha hle hW hd hv K hK
       obtain ⟨d0, _⟩ := hd
       have q23 : a'.tmps[23]? = some (us 0) := by rw [ha.out]; kernel_rfl
       rw [show us 0 = .pointer (some ⟨g, 0, none⟩) from d0] at q23
       exact sV (v := .pointer (some ⟨g, 0, none⟩)) hK rfl
      ·refine sF rfl rfl ?_
       intro us vals w3 a' ha hle hW hd hv K hK
       obtain ⟨d1, _⟩ := hd
       have q24 : a'.tmps[24]? = some (us 1) := by rw [ha.out]; kernel_rfl
       rw [show us 1 = .pointer (some ⟨g, 0, none⟩) from d1] at q24
       exact sV (v := .pointer (some ⟨g, 0, none⟩)) hK rfl
      ·refine sF rfl rfl ?_
       intro us vals w3 a' ha hle hW hd hv K hK
       have q7 : a'.tmps[7]? = some (.int .i64 X) := by rw [ha.out]; kernel_rfl
       exact sV hK rfl
      ·refine sF rfl rfl ?_
       intro us vals w3 a' ha hle hW hd hv K hK
       have q2 : a'.tmps[2]? = some (.int .i64 most) := by rw [ha.out]; kernel_rfl
       exact sV hK rfl
      ·refine sF rfl rfl ?_
       intro us vals w3 a' ha hle hW hd hv K hK
       obtain ⟨d3, d4, _⟩ := hd
       have q26 : a'.tmps[26]? = some (us 3) := by rw [ha.out]; kernel_rfl
       rw [show us 3 = .int .i64 X from d3] at q26
       have q27 : a'.tmps[27]? = some (us 4) := by rw [ha.out]; kernel_rfl
       rw [show us 4 = .int .i64 most from d4] at q27
       exact sV (v := .bool false) hK rfl
      ·refine sF rfl rfl ?_
       intro us vals w3 a' ha hle hW hd hv K hK
       obtain ⟨d5, _⟩ := hd
       have q28 : a'.tmps[28]? = some (us 5) := by rw [ha.out]; kernel_rfl
       rw [show us 5 = .bool false from d5] at q28
       exact sV hK rfl
      ·refine stageOf_skip rfl (fun us vals w3 a' ha hd => ?_) (fun _ => rfl)
       obtain ⟨d6, _⟩ := hd
       have q : a'.tmps[29]? = some (us 6) := by rw [ha.out]; kernel_rfl
       rw [show us 6 = .bool false from d6] at q
       exact wanted_other rfl rfl q
      ·refine stageOf_skip rfl (fun us vals w3 a' ha hd => ?_) (fun _ => rfl)
       obtain ⟨_, d6, _⟩ := hd
       have q : a'.tmps[29]? = some (us 6) := by rw [ha.out]; kernel_rfl
       rw [show us 6 = .bool false from d6] at q
       exact wanted_other rfl rfl q
      ·refine stageOf_skip rfl (fun us vals w3 a' ha hd => ?_) (fun _ => rfl)
       obtain ⟨_, d6, _, _⟩ := hd
       have q : a'.tmps[29]? = some (us 6) := by rw [ha.out]; kernel_rfl
       rw [show us 6 = .bool false from d6] at q
       exact wanted_other rfl rfl q
      ·refine sF rfl rfl ?_
       intro us vals w3 a' ha hle hW hd hv K hK
       obtain ⟨d6, d9, _⟩ := hd
       have q29 : a'.tmps[29]? = some (us 6) := by rw [ha.out]; kernel_rfl
       rw [show us 6 = .bool false from d6] at q29
       have q32 : a'.tmps[32]? = some (us 9) := by rw [ha.out]; kernel_rfl
       rw [show us 9 = undef from d9] at q32
       exact sV (v := .bool false) hK rfl
      ·refine stageOf_mem (t := 0) rfl ?_
       intro us vals w3 a' ha hle hW hd hv
       obtain ⟨d2, d10, _, _⟩ := hd
       obtain rfl := List.eq_nil_of_length_eq_zero (Nat.le_zero.1 (show vals.length ≤ 0 from Nat.le_of_eq hv))
       refine ⟨wanted_none rfl, fun K hK => ?_⟩
       have q25 : a'.tmps[25]? = some (us 2) := by rw [ha.out]; kernel_rfl
       rw [show us 2 = .pointer (some ⟨g, 0, none⟩) from d2] at q25
       have q33 : a'.tmps[33]? = some (us 10) := by rw [ha.out]; kernel_rfl
       rw [show us 10 = .bool false from d10] at q33
       refine step_call (f := 96) (args := #[.pointer (some ⟨g, 0, none⟩), .bool false]) (by go_simp) ?_
       refine (must_any w3 g A3 n3 c3 l3 b3 false hW.1).mono ?_
       rintro e w4 ⟨rfl, h5, h6⟩
       exact ⟨_, rfl, hK _ _ h6 ⟨h5, hW.2.trans' h6⟩⟩
     ·intro us vals w3 hle hvl hV _ hfa
      obtain ⟨x1, rfl⟩ := List.length_eq_one_iff.1 hvl
      have h23 : us 0 = _ := hfa 0 (by decide) rfl
      exact hM _ _ (Met.intro (hJ _ _ ⟨us 0, us 1, us 2, us 3, us 4, us 5, us 6, us 7, us 8, us 9, us 10, us 11, ⟨h23, by rw [Hb4.out]; exact hV.1, hV.2⟩, by kernel_rfl⟩))
   case rest =>
    obtain ⟨rfl, hd4, hk4⟩ := hcut
    have hc1 := hd4.cell.cell 1
    have hkx := (hk2.trans' hk3).trans' hk4
    cases b4 with
    | true =>
     have hTe : T = ([], none) := by
      rw [HT2.out]
      cases b3 with
      | true => exact riseT_fail HN.out.symm
      | false =>
       refine riseT_off HN.out.symm fun hc => ?_
       have hb := Hb4.out
       have hx : X = ((last + m2 : Nat) : Int) := by rw [HX.out]; omega
       have hfit : fitsB [X] = true := by rw [fits_one, decide_eq_true_eq]; omega
       have h2 : is = true := by rw [His.out, hfit, decide_eq_true (show X ≤ most by omega)]; rfl
       rw [h2] at hb
       cases hb
     subst hTe
     go_wp2
     rw [Exit.noGoto_ret]
     go_ret
     exact ⟨_, w.heap.size, rfl, Nat.le_refl _, World.ownsRow_nil _ _ _ _, A3, n3, c3, l3, true, hd4, rfl, by omega, hkx⟩
    | false =>
     have hb3 : b3 = false := by
      have hb := Hb4.out
      cases b3 with
      | false => rfl
      | true => cases hb
     subst hb3
     have hist : is = true := by
      have hb := Hb4.out
      cases is with
      | true => rfl
      | false => cases hb
     subst hist
     have hx : X = ((last + m2 : Nat) : Int) := by rw [HX.out]; omega
     have hxx : X ≤ most ∧ fitsB [X] = true := by
      have h := His.out
      rw [eq_comm, Bool.and_eq_true, decide_eq_true_eq] at h
      exact h
     rw [fits_one, decide_eq_true_eq] at hxx
     have HTs := Lib.hid (HT2.out.trans (riseT_step HN.out.symm ⟨by omega, by omega⟩))
     have hlt3 := num_less HN.out.symm
     have hown0 : ∀ q, u6.ownBlock = some q → ¬ Own1 g q := fun q hq hq2 => by
      have h := (hown.lt q hq).1
      rw [show q = g from hq2] at h
      omega
     have hown2 := ((hk3.trans' hk4).own hown hown0)
     have hXb : X ≤ 1099511627776 := by have := hxx.2.2; simp only [maxNum] at this; omega
     have hlm : last + m2 ≤ 1099511627776 := by omega
     have HX2 := Lib.hid hx
     have hX0 : 0 ≤ X := hxx.2.1
     clear hx hxx hNle2 HX Hb4 His HT2 hown
     have hsz := hkx.size
     have hr1 : ReadsAt (wc.alloc (.cells #[.int .i64 X] 3)) (wc.heap.size + 1) 1 (some ⟨wc.heap.size, 0, none⟩) 1 [.int .i64 X] := ReadsAt.made1 wc 3 _
     have hown3 := own_below hown2 (Grow.alloc wc (.cells #[.int .i64 X] 3))
     have hkw := hkx.trans' (Keep.alloc (S := Own1 g) wc (.cells #[.int .i64 X] 3))
     have hbz : w.heap.size ≤ (wc.alloc (.cells #[.int .i64 X] 3)).heap.size := hkw.size
     have hll : rs.length + 1 ≤ 17592186044416 := by omega
     have Hr1 := Lib.hid hr1
     have Hown3 := Lib.hid hown3
     have Hkw := Lib.hid hkw
     clear hr1 hown3 hkw hown2
     go_wp2_with (at_builtin; refine wpList_append_reads _ rfl (.tmp 40) (.tmp 42) rfl intsTy rfl Hown3.out rfl Hr1.out (by simp [Value.oneCell']) (by simp only [maxLen]; omega) (by omega) hbz ?_; intro v4 w4 hown4 hgrow4 hat4)
     have hk4w := (Keep.grown hgrow4)
     go_roundw
     case rel =>
      refine ⟨k, last + m2 + 1, rs ++ [last + m2], ?_, ?_, ⟨A3, n3, c3, l3, false, ?_, fun h => (by cases h), fun _ => HTs.out, ?_⟩, ?_, ?_, ?_, ?_⟩
      ·go_num
      ·rw [HX2.out]; go_num
      ·refine (hd4.grow (Grow.alloc _ _)).kept hk4w ?_ ?_
       ·intro h
        have := (Hown3.out.lt g h).1
        omega
       ·intro ad had h
        have h1 := (Hown3.out.lt ad.block h).1
        have h2 := hd4.apart ad had
        omega
      ·rw [List.length_append]; simp only [List.length_cons, List.length_nil]; omega
      ·exact Hkw.out.trans hk4w fun j hj => Or.inr (Hown3.out.lt j hj).1
      ·rw [List.length_append, List.map_append, List.map_cons, List.map_nil, ← HX2.out]
       exact hown4
      ·omega
      ·omega
     case measure => simp [intOf]
end Go.Proofs.YtcimkoehcdfjdaaGreatDoor
