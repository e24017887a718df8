/-
  The walk of the document's Reader.Rising.
-/
import Derived.Test.YtcjbeaohmgfgoaaGreatDText
import Derived.Test.YtcjbeaohmgfgoaaGreatWRising
import Derived.Test.YtcjbeaohmgfgoaaGreatWireRise
namespace Go.Proofs.YtcjbeaohmgfgoaaGreat
open Go.RowKit WireM

/-- what holds at the head of the loop: rs has been told, i of N have been gone through -/
structure DRise (w : World) (g : Nat) (A : Option Addr) (n c : Nat) (L : List UInt8) (most : Int) (T : List Nat × St) (N i last : Nat) (rs : List Nat) (row : Value) (W : World) : Prop where
  rd : ∃ at_ bad, Rdd W g A n c L at_ bad ∧ (bad = true → T = ([], none)) ∧ (bad = false → T = riseT most (N - i) last (some (L.drop at_)) rs ∧ last ≤ 1099511627777) ∧ (bad = false → rs.length + (n - at_) ≤ n)
  keep : Keep (Own1 g) w W
  own : W.ownsRow w.heap.size 3 1 row rs.length (rs.map fun n : Nat => .int .i64 (n : Int))
  last : last ≤ 2199023255560
  le : i ≤ N

set_option maxRecDepth 100000 in
set_option maxHeartbeats 8000000 in
theorem dRising_any (w : World) (g : Nat) (A : Option Addr) (n c : Nat) (L : List UInt8) (at0 : Nat) (bad0 : Bool) (many most : Int) (h0 : Rdd w g A n c L at0 bad0) (hn : n ≤ 17592186043904) :
    Calls Tryz.prog 50 #[.pointer (some ⟨g, 0, none⟩), .int .i64 many, .int .i64 most] w fun e w' => ∃ r B, e = .returned r ∧ w.heap.size ≤ B ∧ w'.ownsRow B 3 1 r (rising many most (ddSt L at0 bad0)).1.length ((rising many most (ddSt L at0 bad0)).1.map fun n : Nat => .int .i64 (n : Int)) ∧ RddAt w g A n c L (rising many most (ddSt L at0 bad0)).2 w' := by
  have intsTy : AppTy Tryz.prog 25 3 (.int .i64 0) 1 8 := AppTy.mk' Tryz.underlying25 (by kernel_rfl) rfl (by decide)
  have hnum := dNumber_any w g A n c L at0 bad0 many h0
  obtain ⟨N, hN⟩ : ∃ N, N = num many (ddSt L at0 bad0) := ⟨_, rfl⟩
  rw [← hN] at hnum
  have hm0 : N.1 ≤ 1099511627776 := by rw [hN]; exact num_most _ _
  obtain ⟨T, hT⟩ : ∃ T, T = rising many most (ddSt L at0 bad0) := ⟨_, rfl⟩
  rw [← hT]
  obtain ⟨m, st⟩ := N
  have hm1 : m ≤ 1099511627776 := hm0
  have Hnum := Lib.hid hnum
  have hg0 := h0.cell.lt
  have Hold := Lib.hid (show 0 < n → ∀ ad, A = some ad → ad.block < w.heap.size from bytes_lt h0.reads)
  have hTn : st = none → T = ([], none) := fun h => by rw [hT]; exact rising_none (h ▸ hN.symm)
  have hTs : ∀ l, st = some l → T = riseT most m 0 (some l) [] := fun l h => by rw [hT]; exact rising_T (h ▸ hN.symm)
  have HTn := Lib.hid hTn
  have HTs := Lib.hid hTs
  clear hN hT hnum hm0 h0 hTn hTs
  go_enter Tryz.func50, Tryz.ntmps50
  go_wp2_with fail
  refine Hnum.out.mono ?_
  rintro e w1 ⟨rfl, at1, bad1, hd1, hs1, hk1⟩
  have hS0 : DRise w g A n c L most T m 0 0 [] (.slice none 0 0) w1 := ⟨⟨at1, bad1, hd1, (fun h => HTn.out (by rw [← hs1, h]; rfl)), (fun h => ⟨HTs.out _ (by rw [← hs1, h]; rfl), by omega⟩), fun _ => by simp⟩, hk1, World.ownsRow_nil _ _ _ _, by omega, by omega⟩
  have HS0 := Lib.hid hS0
  clear hS0 hd1 hs1 hk1
  go_wp2_with fail
  go_loopw [8, 9, 10] (fun v8 v9 v10 wr => ∃ (i last : Nat) (rs : List Nat), v10 = .int .i64 (i : Int) ∧ v9 = .int .i64 ((last : Int) - 1) ∧ DRise w g A n c L most T m i last rs v8 wr) (fun _ _ v10 _ => m - (intOf v10).toNat)
  case atStart => exact ⟨0, 0, [], rfl, rfl, HS0.out⟩
  case round =>
    clear HS0
    obtain ⟨i, last, rs, rfl, rfl, ⟨at2, bad2, hd2, hb2, ht2, hll2⟩, hk2, hown, hlast, him⟩ := hrel
    have Hb2 := Lib.hid hb2
    have Ht2 := Lib.hid ht2
    have Hll2 := Lib.hid hll2
    have hc2 := hd2.cell.cell 2
    have hle2 := hd2.le
    clear hb2 ht2 hll2
    by_cases hi : i < m
    · cases bad2 with
      | true =>
        have hTe := Hb2.out rfl
        have HTe := Lib.hid hTe
        clear hTe
        go_wp2
        go_ret
        rw [HTe.out]
        first | exact ⟨_, w.heap.size, rfl, Nat.le_refl _, World.ownsRow_nil _ _ _ _, at2, true, hd2, rfl, hk2⟩ | exact ⟨_, rfl, w.heap.size, Nat.le_refl _, World.ownsRow_nil _ _ _ _, at2, true, hd2, rfl, hk2⟩
      | false =>
        obtain ⟨hTr, hlast2⟩ := Ht2.out rfl
        have hrl := Hll2.out rfl
        have hnum := dNumber_any wr g A n c L at2 false ((maxNum : Nat) : Int) hd2
        obtain ⟨M, hM⟩ : ∃ M, M = num ((maxNum : Nat) : Int) (ddSt L at2 false) := ⟨_, rfl⟩
        rw [← hM] at hnum
        have hM0 : M.1 ≤ 1099511627776 := by rw [hM]; exact num_most _ _
        obtain ⟨m2, st2⟩ := M
        have hM1 : m2 ≤ 1099511627776 := hM0
        rw [show m - i = (m - i - 1) + 1 by omega] at hTr
        have HM := Lib.hid (show num ((maxNum : Nat) : Int) (some (L.drop at2)) = (m2, st2) from hM.symm)
        have HTr := Lib.hid hTr
        have Hnum := Lib.hid hnum
        have hlen := hd2.len
        clear hM hM0 hTr hnum hd2
        obtain ⟨X, hX⟩ : ∃ X : Nat, X = last + m2 := ⟨_, rfl⟩
        have hXb : X ≤ 2199023255553 := by omega
        have HX := Lib.hid (show (last : Int) - 1 + 1 + (m2 : Int) = (X : Int) by omega)
        have HX3 := Lib.hid (show (last : Int) + (m2 : Int) = (X : Int) by omega)
        have HX2 := Lib.hid hX
        clear hX
        go_wp2_with fail
        refine Calls.mono (show Calls _ _ #[_, .int .i64 1099511627776] _ _ from Hnum.out) ?_
        rintro e w2 ⟨rfl, at3, bad3, hd3, hs3, hk3⟩
        have Hs3 := Lib.hid hs3
        have hkx := hk2.trans' hk3
        have hown2 := hk3.own hown fun q hq hq2 => by
          have h := (hown.lt q hq).1
          rw [show q = g from hq2] at h
          omega
        have hc3 := hd3.cell.cell 2
        have hf3 := hd3.cell.frozen 2
        have hm3 := hd3.mark true
        have Hm3 := Lib.hid hm3
        clear hs3 hk2 hk3 hown hm3
        go_upto_region 8 with (fail)
        first | rw [HX.out] | rw [HX3.out]
        by_cases hc : (X : Int) ≤ most ∧ X ≤ 1099511627776
        · obtain ⟨hcm, hcx⟩ := hc
          have d1 : decide (most < (X : Int)) = false := decide_eq_false (by omega)
          have d2 : decide ((1099511627776 : Int) < (X : Int)) = false := decide_eq_false (by omega)
          have hr1 : ReadsAt ((w2).alloc (.cells #[.int .i64 (X : Int)] 3)) (w2.heap.size + 1) 1 (some ⟨w2.heap.size, 0, none⟩) 1 [.int .i64 (X : Int)] := by
            have h := ReadsAt.made1 (w2) 3 (.int .i64 (X : Int))
            (try rw [size_setCell] at h)
            exact h
          have hownA := own_below hown2 (Grow.alloc (w2) (.cells #[.int .i64 (X : Int)] 3))
          have hkw := hkx.trans' (Keep.alloc (S := Own1 g) (w2) (.cells #[.int .i64 (X : Int)] 3))
          have hbz : w.heap.size ≤ ((w2).alloc (.cells #[.int .i64 (X : Int)] 3)).heap.size := hkw.size
          have hrs : rs.length + 1 ≤ 17592186044416 := by omega
          have Hr1 := Lib.hid hr1
          have HownA := Lib.hid hownA
          have Hkw := Lib.hid hkw
          have HdA := Lib.hid (hd3.grow (Grow.alloc (w2) (.cells #[.int .i64 (X : Int)] 3)))
          clear hr1 hownA hkw hown2
          go_wp2_with (at_builtin; refine wpList_append_reads _ rfl (.tmp 41) (.tmp 43) rfl intsTy rfl HownA.out rfl Hr1.out (by simp [Value.oneCell']) (by simp only [maxLen]; omega) (by omega) hbz ?_; intro v4 w4 hown4 hgrow4 hat4)
          have hk4w := (Keep.grown hgrow4)
          have hd5 := HdA.out.kept hk4w (fun h => by have := (HownA.out.lt g h).1; omega) (fun h0 ad e h => by have h1 := (HownA.out.lt ad.block h).1; have h2 := Hold.out h0 ad e; omega)
          have hk5 : Keep (Own1 g) w w4 := Hkw.out.trans hk4w fun j hj => Or.inr (HownA.out.lt j hj).1
          have hown5 : w4.ownsRow w.heap.size 3 1 v4 (rs ++ [X]).length ((rs ++ [X]).map fun n : Nat => .int .i64 (n : Int)) := by
            rw [List.length_append, List.map_append, List.map_cons, List.map_nil]
            exact hown4
          have Hf := Lib.hid (show DRise w g A n c L most T m (i + 1) (X + 1) (rs ++ [X]) v4 w4 from by
              refine ⟨⟨at3, bad3, hd5, fun h => ?_, fun h => ?_, fun h => ?_⟩, hk5, hown5, by omega, by omega⟩
              · have hs3 := Hs3.out
                rw [h] at hs3
                have hM2 := HM.out
                rw [← hs3] at hM2
                rw [HTr.out]
                exact riseT_fail hM2
              · have hs3 := Hs3.out
                rw [h] at hs3
                have hM2 := HM.out
                rw [← hs3] at hM2
                have hX := HX2.out
                refine ⟨?_, by omega⟩
                rw [HTr.out, riseT_step hM2 ⟨by omega, by simp only [maxNum]; omega⟩, hX, show m - (i + 1) = m - i - 1 by omega]
              · have hs3 := Hs3.out
                rw [h] at hs3
                have hM2 := HM.out
                rw [← hs3] at hM2
                have h2 := num_less hM2
                rw [List.length_drop, List.length_drop, hlen] at h2
                rw [List.length_append]
                have h3 := hd5.le
                simp only [List.length_cons, List.length_nil]
                omega)
          clear hd5 hk5 hown5 hown4 hgrow4 hat4 hk4w
          go_roundw
          case rel => exact ⟨i + 1, X + 1, rs ++ [X], by go_num, by go_num, Hf.out⟩
          case measure => simp [intOf]; omega
        · have hTx : (∃ l, st2 = some l) → T = ([], none) := fun ⟨l, h⟩ => by
            have hM2 := HM.out
            rw [h] at hM2
            rw [HTr.out]
            refine riseT_off hM2 fun hc2 => hc ?_
            have := HX2.out
            simp only [maxNum] at hc2
            omega
          have hTz : T = ([], none) := by
            cases st2 with
            | none => rw [HTr.out]; exact riseT_fail HM.out
            | some l => exact hTx ⟨l, rfl⟩
          have HTz := Lib.hid hTz
          have hown3 := (Hm3.out.2).own hown2 fun q hq hq2 => by
            have h := (hown2.lt q hq).1
            rw [show q = g from hq2] at h
            omega
          have hkm := hkx.trans' Hm3.out.2
          have hd4 := Hm3.out.1
          clear hTx hTz hown2
          by_cases hcm : (X : Int) ≤ most
          · have d1 : decide (most < (X : Int)) = false := decide_eq_false (by omega)
            have d2 : decide ((1099511627776 : Int) < (X : Int)) = true := decide_eq_true (by omega)
            have hr1 : ReadsAt ((w2.setCell ⟨g, 2, none⟩ (.bool true)).alloc (.cells #[.int .i64 (X : Int)] 3)) (w2.heap.size + 1) 1 (some ⟨w2.heap.size, 0, none⟩) 1 [.int .i64 (X : Int)] := by
              have h := ReadsAt.made1 (w2.setCell ⟨g, 2, none⟩ (.bool true)) 3 (.int .i64 (X : Int))
              (try rw [size_setCell] at h)
              exact h
            have hownA := own_below hown3 (Grow.alloc (w2.setCell ⟨g, 2, none⟩ (.bool true)) (.cells #[.int .i64 (X : Int)] 3))
            have hkw := hkm.trans' (Keep.alloc (S := Own1 g) (w2.setCell ⟨g, 2, none⟩ (.bool true)) (.cells #[.int .i64 (X : Int)] 3))
            have hbz : w.heap.size ≤ ((w2.setCell ⟨g, 2, none⟩ (.bool true)).alloc (.cells #[.int .i64 (X : Int)] 3)).heap.size := hkw.size
            have hrs : rs.length + 1 ≤ 17592186044416 := by omega
            have Hr1 := Lib.hid hr1
            have HownA := Lib.hid hownA
            have Hkw := Lib.hid hkw
            have HdA := Lib.hid (hd4.grow (Grow.alloc (w2.setCell ⟨g, 2, none⟩ (.bool true)) (.cells #[.int .i64 (X : Int)] 3)))
            clear hr1 hownA hkw hown3
            go_wp2_with (at_builtin; refine wpList_append_reads _ rfl (.tmp 41) (.tmp 43) rfl intsTy rfl HownA.out rfl Hr1.out (by simp [Value.oneCell']) (by simp only [maxLen]; omega) (by omega) hbz ?_; intro v4 w4 hown4 hgrow4 hat4)
            have hk4w := (Keep.grown hgrow4)
            have hd5 := HdA.out.kept hk4w (fun h => by have := (HownA.out.lt g h).1; omega) (fun h0 ad e h => by have h1 := (HownA.out.lt ad.block h).1; have h2 := Hold.out h0 ad e; omega)
            have hk5 : Keep (Own1 g) w w4 := Hkw.out.trans hk4w fun j hj => Or.inr (HownA.out.lt j hj).1
            have hown5 : w4.ownsRow w.heap.size 3 1 v4 (rs ++ [X]).length ((rs ++ [X]).map fun n : Nat => .int .i64 (n : Int)) := by
              rw [List.length_append, List.map_append, List.map_cons, List.map_nil]
              exact hown4
            have Hf := Lib.hid (show DRise w g A n c L most T m (i + 1) (X + 1) (rs ++ [X]) v4 w4 from by
                exact ⟨⟨at3, true, hd5, fun _ => HTz.out, (fun h => by cases h), fun h => by cases h⟩, hk5, hown5, by omega, by omega⟩)
            clear hd5 hk5 hown5 hown4 hgrow4 hat4 hk4w
            go_roundw
            case rel => exact ⟨i + 1, X + 1, rs ++ [X], by go_num, by go_num, Hf.out⟩
            case measure => simp [intOf]; omega
          · have d1 : decide (most < (X : Int)) = true := decide_eq_true (by omega)
            have hr1 : ReadsAt ((w2.setCell ⟨g, 2, none⟩ (.bool true)).alloc (.cells #[.int .i64 (X : Int)] 3)) (w2.heap.size + 1) 1 (some ⟨w2.heap.size, 0, none⟩) 1 [.int .i64 (X : Int)] := by
              have h := ReadsAt.made1 (w2.setCell ⟨g, 2, none⟩ (.bool true)) 3 (.int .i64 (X : Int))
              (try rw [size_setCell] at h)
              exact h
            have hownA := own_below hown3 (Grow.alloc (w2.setCell ⟨g, 2, none⟩ (.bool true)) (.cells #[.int .i64 (X : Int)] 3))
            have hkw := hkm.trans' (Keep.alloc (S := Own1 g) (w2.setCell ⟨g, 2, none⟩ (.bool true)) (.cells #[.int .i64 (X : Int)] 3))
            have hbz : w.heap.size ≤ ((w2.setCell ⟨g, 2, none⟩ (.bool true)).alloc (.cells #[.int .i64 (X : Int)] 3)).heap.size := hkw.size
            have hrs : rs.length + 1 ≤ 17592186044416 := by omega
            have Hr1 := Lib.hid hr1
            have HownA := Lib.hid hownA
            have Hkw := Lib.hid hkw
            have HdA := Lib.hid (hd4.grow (Grow.alloc (w2.setCell ⟨g, 2, none⟩ (.bool true)) (.cells #[.int .i64 (X : Int)] 3)))
            clear hr1 hownA hkw hown3
            go_wp2_with (at_builtin; refine wpList_append_reads _ rfl (.tmp 41) (.tmp 43) rfl intsTy rfl HownA.out rfl Hr1.out (by simp [Value.oneCell']) (by simp only [maxLen]; omega) (by omega) hbz ?_; intro v4 w4 hown4 hgrow4 hat4)
            have hk4w := (Keep.grown hgrow4)
            have hd5 := HdA.out.kept hk4w (fun h => by have := (HownA.out.lt g h).1; omega) (fun h0 ad e h => by have h1 := (HownA.out.lt ad.block h).1; have h2 := Hold.out h0 ad e; omega)
            have hk5 : Keep (Own1 g) w w4 := Hkw.out.trans hk4w fun j hj => Or.inr (HownA.out.lt j hj).1
            have hown5 : w4.ownsRow w.heap.size 3 1 v4 (rs ++ [X]).length ((rs ++ [X]).map fun n : Nat => .int .i64 (n : Int)) := by
              rw [List.length_append, List.map_append, List.map_cons, List.map_nil]
              exact hown4
            have Hf := Lib.hid (show DRise w g A n c L most T m (i + 1) (X + 1) (rs ++ [X]) v4 w4 from by
                exact ⟨⟨at3, true, hd5, fun _ => HTz.out, (fun h => by cases h), fun h => by cases h⟩, hk5, hown5, by omega, by omega⟩)
            clear hd5 hk5 hown5 hown4 hgrow4 hat4 hk4w
            go_roundw
            case rel => exact ⟨i + 1, X + 1, rs ++ [X], by go_num, by go_num, Hf.out⟩
            case measure => simp [intOf]; omega
    · obtain rfl : m = i := by omega
      cases bad2 with
      | true =>
        have hTe := Hb2.out rfl
        have HTe := Lib.hid hTe
        clear hTe
        go_wp2
        go_ret
        rw [HTe.out]
        first | exact ⟨_, w.heap.size, rfl, Nat.le_refl _, World.ownsRow_nil _ _ _ _, at2, true, hd2, rfl, hk2⟩ | exact ⟨_, rfl, w.heap.size, Nat.le_refl _, World.ownsRow_nil _ _ _ _, at2, true, hd2, rfl, hk2⟩
      | false =>
        obtain ⟨hTr, -⟩ := Ht2.out rfl
        rw [Nat.sub_self, riseT_zero] at hTr
        have HTr := Lib.hid hTr
        clear hTr
        go_wp2
        go_ret
        rw [HTr.out]
        first | exact ⟨_, w.heap.size, rfl, Nat.le_refl _, hown, at2, false, hd2, rfl, hk2⟩ | exact ⟨_, rfl, w.heap.size, Nat.le_refl _, hown, at2, false, hd2, rfl, hk2⟩
end Go.Proofs.YtcjbeaohmgfgoaaGreat
