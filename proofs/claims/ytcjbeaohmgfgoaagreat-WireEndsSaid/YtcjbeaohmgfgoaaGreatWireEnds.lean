/-
  mudlarklaw02.WireEnds answers true: numbers about each power of two, rows, cuts are told as written by hand. The walk of the law's text.
-/
import Derived.Test.YtcjbeaohmgfgoaaGreatEndsWords
import Derived.Lib.SlBytesConst
import Derived.Deep.DeepCutAuto
import Derived.Deep.CutRange
import Derived.Test.YtcjbeaohmgfgoaaGreatWireAwake
namespace Go.Proofs.YtcjbeaohmgfgoaaGreat
open Go.RowKit WireM

theorem IntsAt.head {w : World} {B n : Nat} {A : Option Addr} {l : List Int} (h : IntsAt w B A n l) (k : Nat) (hk : k ≤ n) : IntsAt w B A k (l.take k) := by
  have := ReadsAt.head h k hk
  rw [Nat.mul_one, ← List.map_take] at this
  exact this
theorem WText_nil2 (W : World) (m t : Nat) (A : Option Addr) (n c : Nat) (hm : m = W.heap.size) : Calls Tryz.prog 11 #[.pointer none, .slice (some ⟨m, 0, none⟩) 1 1] (W.alloc (.cells #[.slice A n c] t)) fun e w' => e = .returned (.tuple #[]) ∧ Grow W w' := by
  subst hm
  refine (WText_nil _ _ A n c ((Blk.new W t _).cell 0)).mono ?_
  rintro e w' ⟨he, hg⟩
  exact ⟨he, (Grow.alloc _ _).trans hg⟩
theorem IntsAt.made3 (w : World) (t : Nat) (a b c : Int) : IntsAt (w.alloc (.cells #[.int .i64 a, .int .i64 b, .int .i64 c] t)) (w.alloc (.cells #[.int .i64 a, .int .i64 b, .int .i64 c] t)).heap.size (some ⟨w.heap.size, 0, none⟩) 3 [a, b, c] :=
  ReadsAt.more (ReadsAt.made w t [.int .i64 a, .int .i64 b, .int .i64 c]) (by simp)

set_option maxRecDepth 100000 in
set_option maxHeartbeats 8000000 in
theorem ends02_walk (w : World) : Calls Tryz.prog 3 #[] w fun e w' => e = .returned (.bool true) ∧ Below w.heap.size w w' := by
  have bytesTy : AppTy Tryz.prog 22 5 (.int .u8 0) 1 1 := AppTy.mk' Tryz.underlying22 (by kernel_rfl) rfl (by decide)
  go_enter Tryz.func3, Tryz.ntmps3
  go_wp2
  go_loopw [1] (fun v1 wr => ∃ k : Nat, k ≤ 44 ∧ v1 = .int .i64 (k : Int) ∧ Hid (Grow w wr)) (fun v1 _ => 44 - (intOf v1).toNat)
  case atStart => exact ⟨0, by omega, rfl, Grow.refl w⟩
  case round =>
    obtain ⟨k, hk, rfl, hg⟩ := hrel
    obtain ⟨wo, rfl⟩ : ∃ wo : World, wo = wr := ⟨_, rfl⟩
    by_cases hlt : k < 44
    · have hp1 : (1 : Int) ≤ 2 ^ k := by
        have h := Int.pow_pos (n := (2 : Int)) (m := k) (by omega)
        omega
      have hp2 : (2 : Int) ^ k ≤ 8796093022208 := by
        have h : (2 : Nat) ^ k ≤ 2 ^ 43 := Nat.pow_le_pow_right (by omega) (by omega)
        have e : ((2 : Int) ^ k) = (((2 : Nat) ^ k : Nat) : Int) := by rw [Int.natCast_pow]; rfl
        rw [e]
        omega
      have dk : decide ((k : Int) < 44) = true := decide_eq_true (by omega)
      go_wp2
      go_loopw [2] (fun v2 wr => ∃ j : Nat, j ≤ 5 ∧ v2 = .int .i64 ((j : Int) - 2) ∧ Hid (Grow w wr)) (fun v2 _ => 5 - (intOf v2 + 2).toNat)
      case atStart => exact ⟨0, by omega, rfl, hg⟩
      case round =>
        clear hg
        obtain ⟨j, hj, rfl, hg⟩ := hrel
        by_cases hlj : j < 5
        · have dj : decide ((j : Int) - 2 < 3) = true := decide_eq_true (by omega)
          have hzx : (wr.alloc (.cells #[.int .i64 0, .int .i64 0, .int .i64 0] 3)).heap.size = wr.heap.size + 1 := by simp
          go_wp2_with fail
          refine (does3 _ _ _ _ _ _ _ _ _ (by simp) (IntsAt.made3 wr 3 _ _ _) (by omega)).mono ?_
          rintro e w5 ⟨r5, L5, rfl, hown5, hL5, hg5⟩
          obtain ⟨A5, c5, rfl, hm5, hc5, hr5⟩ := own_reads hown5
          have hg5' : Hid (Grow w w5) := hg.out.trans ((Grow.alloc _ _).trans hg5)
          have HB := Lib.hid (show ∀ W, Grow w5 W → BytesAt W W.heap.size A5 L5.length L5 from fun W h => (hr5.below h).more h.size)
          have hLn : L5.length ≤ 2000000 := by omega
          have Hm5 := Lib.hid hm5
          have Hc5 := Lib.hid hc5
          clear hown5 hg5 hr5 hzx hm5 hc5 hL5 hg
          go_wp2_with fail
          refine (gets3 w5 A5 _ c5 L5 _ _ _ _ _ _ _ _ _ (HB.out _ (Grow.refl _)) hLn Hm5.out Hc5.out (by omega)).mono ?_
          rintro e w6 ⟨rfl, hg6⟩
          have HG6 := Lib.hid hg6
          clear hg6
          go_wp2_with fail
          refine (gets1 w6 A5 _ c5 L5 _ _ _ (HB.out _ HG6.out) hLn Hm5.out Hc5.out (by omega)).mono ?_
          rintro e w7 ⟨rfl, hg7⟩
          have HG7 := Lib.hid (HG6.out.trans hg7)
          clear hg7
          go_wp2_with fail
          refine (gets2 w7 A5 _ c5 L5 _ _ _ _ _ _ (HB.out _ HG7.out) hLn Hm5.out Hc5.out (by omega)).mono ?_
          rintro e w8 ⟨rfl, hg8⟩
          have HG8 := Lib.hid (HG7.out.trans hg8)
          clear hg8
          go_wp2_with fail
          refine (gets2 w8 A5 _ c5 L5 _ _ _ _ _ _ (HB.out _ HG8.out) hLn Hm5.out Hc5.out (by omega)).mono ?_
          rintro e w9 ⟨rfl, hg9⟩
          have HG9 := Lib.hid (HG8.out.trans hg9)
          clear hg9
          go_wp2_with fail
          go_loopw [6] (fun v6 wr => ∃ i : Nat, i ≤ L5.length ∧ v6 = .int .i64 (i : Int) ∧ Hid (Grow w5 wr)) (fun v6 _ => L5.length - (intOf v6).toNat)
          case atStart => exact ⟨0, by omega, rfl, HG9.out⟩
          case round =>
            obtain ⟨i, hi, rfl, hgi⟩ := hrel
            by_cases hli : i < L5.length
            · have di : decide (i < L5.length) = true := decide_eq_true hli
              have hmc := Nat.le_trans (Nat.le_of_lt hli) Hm5.out
              go_wp2_with fail
              refine (gets4 wr A5 i c5 (L5.take i) _ _ _ _ _ _ _ _ _ _ _ _ ((HB.out _ hgi.out).head i (by omega)) (by omega) hmc Hc5.out (by omega)).mono ?_
              rintro e wx ⟨rfl, hgx⟩
              have HGx := Lib.hid (hgi.out.trans hgx)
              clear hgx
              go_wp2
              go_roundw
              case rel => exact ⟨i + 1, by omega, by go_num, HGx⟩
              case measure => simp [intOf]; omega
            · obtain rfl : i = L5.length := by omega
              have di : decide (L5.length < L5.length) = false := decide_eq_false (by omega)
              go_wp2
              go_roundw
              case rel =>
                have hfin : Hid (Grow w wr) := hg5'.out.trans hgi.out
                exact ⟨j + 1, by omega, by go_num, hfin⟩
              case measure => simp [intOf]; omega
        · obtain rfl : j = 5 := by omega
          have dj : decide (((5 : Nat) : Int) - 2 < 3) = false := decide_eq_false (by omega)
          go_wp2
          go_roundw
          case rel => exact ⟨k + 1, by omega, by go_num, hg⟩
          case measure => simp [intOf]; omega
    · have e44 : (k : Int) = 44 := by omega
      rw [e44]
      clear e44 hlt hk
      go_wp2_with fail
      go_loopw [7] (fun v7 wr => ∃ k : Nat, k ≤ 9 ∧ v7 = .int .i64 (k : Int) ∧ Hid (Grow w wr)) (fun v7 _ => 9 - (intOf v7).toNat)
      case atStart => exact ⟨0, by omega, rfl, hg⟩
      case round =>
        clear hg
        obtain ⟨k, hk, rfl, hg⟩ := hrel
        by_cases hlt : k < 9
        · have dk : decide ((k : Int) < 9) = true := decide_eq_true (by omega)
          have hmk : (Instr.makeSlice 22 (.int .i64 0) (.int .i64 20)).run Tryz.prog wr = .ok (.slice (some ⟨wr.heap.size, 0, none⟩) 0 20) (wr.alloc (.cells (List.replicate 20 (.int .u8 0)).toArray 5)) := by kernel_rfl
          obtain ⟨Z, hZ⟩ : ∃ Z : Array Value, Z = (List.replicate 20 (Value.int .u8 0)).toArray := ⟨_, rfl⟩
          have hown0 : (wr.alloc (.cells Z 5)).ownsRow wr.heap.size 5 1 (.slice (some ⟨wr.heap.size, 0, none⟩) 0 20) 0 [] := World.ownsRow_made wr Z 20 (Nat.le_refl _) (by decide) (by rw [hZ]; simp)
          rw [← hZ] at hmk
          have hown1 := own_below hown0 (Grow.alloc (wr.alloc (.cells Z 5)) (.cells ((List.replicate 8 (128 : UInt8)).map b8).toArray 5))
          have hr1 : ReadsAt ((wr.alloc (.cells Z 5)).alloc (.cells ((List.replicate 8 (128 : UInt8)).map b8).toArray 5)) ((wr.alloc (.cells Z 5)).heap.size + 1) 1 (some ⟨(wr.alloc (.cells Z 5)).heap.size, 0, none⟩) 8 ((List.replicate 8 (128 : UInt8)).map b8) := ReadsAt.made _ 5 ((List.replicate 8 (128 : UInt8)).map b8)
          have hz1 : wr.heap.size ≤ ((wr.alloc (.cells Z 5)).alloc (.cells ((List.replicate 8 (128 : UInt8)).map b8).toArray 5)).heap.size := by simp; omega
          rw [show (wr.alloc (.cells Z 5)).heap.size = wr.heap.size + 1 by simp] at hr1
          have Hown1 := Lib.hid hown1
          have Hr1 := Lib.hid hr1
          clear hown0 hown1 hr1 hZ
          go_wp2_with (at_builtin; refine wpList_append_reads _ rfl (.tmp 112) (.tmp 113) rfl bytesTy rfl Hown1.out rfl Hr1.out (b8_one _) (by simp only [maxLen]; omega) (by omega) hz1 ?_; intro v8 w8 hown8 hgr8 hat8; obtain ⟨A8, c8, rfl, hm8, hc8, hr8⟩ := own_reads hown8)
          have hG8 : Grow wr w8 := Below.trans ((Grow.alloc wr _).trans (Grow.alloc _ _)) ((Keep.grown hgr8).below (fun q hq => (Hown1.out.lt q hq).1) hz1)
          have hkc : k ≤ c8 := by omega
          obtain ⟨l8, hl8⟩ : ∃ l8, l8 = (List.replicate 8 (128 : UInt8)).take k := ⟨_, rfl⟩
          have hll8 : l8.length = k := by rw [hl8, List.length_take, List.length_replicate]; omega
          have hb8 : BytesAt w8 w8.heap.size A8 k l8 := by
            have h : BytesAt w8 w8.heap.size A8 8 (List.replicate 8 (128 : UInt8)) := hr8
            rw [hl8]
            exact h.head k (by omega)
          have Hl := Lib.hid (show ∀ W, Grow w8 W → BytesAt W W.heap.size A8 k l8 from fun W h => (hb8.below h).more h.size)
          have Hll8 := Lib.hid hll8
          have HG8 : Hid (Grow w w8) := hg.out.trans hG8
          clear hb8 hl8 hll8 hr8 hown8 hgr8 hat8 hz1 hmk hG8 hg
          go_wp2_with fail
          go_loopw [9] (fun v9 wr => ∃ j : Nat, j ≤ 4 ∧ v9 = .int .i64 (j : Int) ∧ Hid (Grow w8 wr)) (fun v9 _ => 4 - (intOf v9).toNat)
          case atStart => exact ⟨0, by omega, rfl, Grow.refl w8⟩
          case round =>
            obtain ⟨j, hj, rfl, hgj⟩ := hrel
            by_cases hlj : j < 4
            · have dj : decide ((j : Int) < 4) = true := decide_eq_true (by omega)
              have Hlr := Lib.hid (show ∀ W, Grow wr W → BytesAt W W.heap.size A8 k l8 from fun W h => Hl.out W (hgj.out.trans h))
              obtain ⟨y4, hy4⟩ := four_byte j hlj
              have Hy4 := Lib.hid hy4
              clear hy4
              go_upto_region 23 with (fail)
              go_cut [10] from 121 to 129 (fun v10 wx => Hid (Bts wr v10 wx))
              case first Jx Kx hJx hMx =>
                refine wp_region_stages (by kernel_rfl) ?_
                refine anyOrder_start_dying [8, 9] (Keep (NewS wr.heap.size)) (btW wr) (FactsD [F0 wr.heap.size, .is (.slice A8 k c8), F2 wr.heap.size l8, F3, .is (.int .i64 (j : Int)), F5 j, F6, F7]) (fun i => if i < 8 then 0 else 99) keep_trans keep_grow btW.grow (factsD_grow _) (factsD_chain _) (by kernel_rfl) (by kernel_rfl) (Grow.refl wr) ?_ ?_
                · refine ⟨?_, ?_, ?_, ?_, ?_, ?_, ?_, ?_, ?_, ?_, trivial⟩
                  · refine stageD_free rfl rfl ?_
                    intro us vals w3 a' ha hle hW hd hv K hK
                    exact step_value (v := .slice (some ⟨w3.heap.size, 0, none⟩) 0 0) (w2 := w3.alloc (.cells #[] 5)) (by go_simp) (hK _ _ (Grow.alloc _ _) (fun _ => ⟨_, rfl, World.ownsRow_made w3 #[] 0 hle.size (by decide) rfl⟩))
                  · refine stageD_free rfl rfl ?_
                    intro us vals w3 a' ha hle hW hd hv K hK
                    have q8 : a'.tmps[8]? = some (.slice A8 k c8) := by rw [ha.out]; kernel_rfl
                    exact step_value (w2 := w3) (by go_simp) (hK _ _ (Grow.refl _) (fun _ => rfl))
                  · refine stageD_free rfl rfl ?_
                    intro us vals w3 a' ha hle hW hd hv K hK
                    obtain ⟨d0, d1, _⟩ := hd
                    obtain rfl := List.eq_nil_of_length_eq_zero (Nat.le_zero.1 (show vals.length ≤ 0 from hv))
                    obtain ⟨m0, e0, o0⟩ := d0 rfl
                    have q121 : a'.tmps[121]? = some (us 0) := by rw [ha.out]; kernel_rfl
                    have q122 : a'.tmps[122]? = some (us 1) := by rw [ha.out]; kernel_rfl
                    rw [show us 1 = .slice A8 k c8 from d1 rfl] at q122
                    rw [e0] at q121 o0
                    refine wp_append_two (.tmp 121) (.tmp 122) rfl bytesTy (evalT q121) o0 (evalT q122) (Hlr.out w3 hW) (b8_one _) (by simp only [maxLen]; omega) (by omega) hle.size ?_
                    intro v' w' ho htw
                    refine hK _ _ (two_grow htw o0 ho) fun _ => ?_
                    rw [Nat.zero_add, List.nil_append, ← Hll8.out] at ho
                    exact ho
                  · refine stageD_free rfl rfl ?_
                    intro us vals w3 a' ha hle hW hd hv K hK
                    exact step_value (v := .slice (some ⟨w3.heap.size, 0, none⟩) 4 4) (w2 := w3.alloc (.cells four 5)) (by go_simp) (hK _ _ (Grow.alloc _ _) (fun _ => ⟨_, rfl, Blk.new _ _ _⟩))
                  · refine stageD_free rfl rfl ?_
                    intro us vals w3 a' ha hle hW hd hv K hK
                    have q9 : a'.tmps[9]? = some (.int .i64 (j : Int)) := by rw [ha.out]; kernel_rfl
                    exact step_value (w2 := w3) (by go_simp) (hK _ _ (Grow.refl _) (fun _ => rfl))
                  · refine stageD_free rfl rfl ?_
                    intro us vals w3 a' ha hle hW hd hv K hK
                    obtain ⟨d3, d4, _⟩ := hd
                    obtain rfl := List.eq_nil_of_length_eq_zero (Nat.le_zero.1 (show vals.length ≤ 0 from hv))
                    obtain ⟨m3, e3, b3⟩ := d3 rfl
                    have q124 : a'.tmps[124]? = some (us 3) := by rw [ha.out]; kernel_rfl
                    have q125 : a'.tmps[125]? = some (us 4) := by rw [ha.out]; kernel_rfl
                    rw [show us 4 = .int .i64 (j : Int) from d4 rfl] at q125
                    rw [e3] at q124
                    refine step_value (v := .pointer (some ⟨m3, j, none⟩)) (w2 := w3) ?_ (hK _ _ (Grow.refl _) (fun _ => ⟨m3, rfl, b3⟩))
                    go_simp
                    (try (intro h; omega))
                  · refine stageD_free rfl rfl ?_
                    intro us vals w3 a' ha hle hW hd hv K hK
                    obtain ⟨d5, _⟩ := hd
                    obtain rfl := List.eq_nil_of_length_eq_zero (Nat.le_zero.1 (show vals.length ≤ 0 from hv))
                    obtain ⟨m5, e5, b5⟩ := d5 rfl
                    have q126 : a'.tmps[126]? = some (us 5) := by rw [ha.out]; kernel_rfl
                    rw [e5] at q126
                    have hc := b5.cell j
                    rw [Hy4.out] at hc
                    refine step_value (v := .int .u8 (y4.toNat : Int)) (w2 := w3) ?_ (hK _ _ (Grow.refl _) (fun _ => ⟨y4, rfl⟩))
                    go_simp
                  · refine stageD_free rfl rfl ?_
                    intro us vals w3 a' ha hle hW hd hv K hK
                    obtain ⟨d6, _⟩ := hd
                    obtain rfl := List.eq_nil_of_length_eq_zero (Nat.le_zero.1 (show vals.length ≤ 0 from hv))
                    obtain ⟨y6, e6⟩ := d6 rfl
                    have q127 : a'.tmps[127]? = some (us 6) := by rw [ha.out]; kernel_rfl
                    rw [e6] at q127
                    exact step_value (v := .slice (some ⟨w3.heap.size, 0, none⟩) 2 2) (w2 := w3.alloc (.cells #[.int .u8 (y6.toNat : Int), .int .u8 5] 5)) (by go_simp) (hK _ _ (Grow.alloc _ _) (fun _ => ⟨_, y6, rfl, Blk.new _ _ _⟩))
                  · refine stageD_mem (t := 0) rfl ?_
                    intro us vals w3 a' ha hle hW hd hv
                    obtain ⟨d2, d7, _, _⟩ := hd
                    obtain rfl := List.eq_nil_of_length_eq_zero hv
                    refine ⟨wanted_none rfl, fun K hK => ?_⟩
                    have o2 : w3.ownsRow wr.heap.size 5 1 (us 2) l8.length (l8.map b8) := d2 rfl
                    obtain ⟨m7, y7, e7, b7⟩ := d7 rfl
                    have q123 : a'.tmps[123]? = some (us 2) := by rw [ha.out]; kernel_rfl
                    have q128 : a'.tmps[128]? = some (us 7) := by rw [ha.out]; kernel_rfl
                    rw [e7] at q128
                    have b7' : Blk w3 m7 5 (([y7, 5] : List UInt8).map b8).toArray := b7
                    have hl8 := Hll8.out
                    refine wp_append_reads w3 (.tmp 123) (.tmp 128) rfl bytesTy (evalT q123) o2 (evalT q128) (BytesAt.of_row (l := [y7, 5]) b7'.cells b7'.lt) (b8_one _) (by simp only [maxLen]; omega) (by omega) hle.size ?_
                    intro v2 w4 ho hg2 hat
                    have hk : Keep (NewS wr.heap.size) w3 w4 := (Keep.grown hg2).mono fun j hj => Or.inl (o2.lt j hj).1
                    refine hK _ _ hk ⟨l8 ++ [y7, 5], by simp; omega, ?_, Below.trans hW (hk.below (fun q hq => hq) (Grow.below hW).size)⟩
                    rw [List.length_append, List.map_append]
                    exact ho
                  · refine stageD_mem (t := 1) rfl ?_
                    intro us vals w3 a' ha hle hW hd hv
                    obtain ⟨d8, _⟩ := hd
                    obtain ⟨a0, rfl⟩ := List.length_eq_one_iff.1 hv
                    have e8 : a0 = us 8 := by have h0 : some a0 = some (us 8) := d8; injection h0
                    refine ⟨wanted_none rfl, fun K hK => ?_⟩
                    have q129 : a'.tmps[129]? = some (us 8) := by rw [ha.out]; kernel_rfl
                    rw [e8] at hW hK
                    exact step_value (v := us 8) (w2 := w3) (by go_simp) (hK _ _ (Keep.refl _ _) hW)
                · intro us vals w3 hle hvl hV htl hfa
                  obtain ⟨x1, x2, rfl⟩ : ∃ x1 x2, vals = [x1, x2] := by match vals, hvl with | [x1, x2], _ => exact ⟨x1, x2, rfl⟩
                  have e9 : x2 = us 9 := by have h0 : some x2 = some (us 9) := htl 1 (by simp); injection h0
                  subst e9
                  exact hMx _ _ (Met.intro (hJx _ _ ⟨us 9, us 0, us 1, us 2, us 3, us 4, us 5, us 6, us 7, us 8, hV, by kernel_rfl⟩))
              case rest =>
                obtain ⟨LB, hLB, hoB, hgB⟩ := hcut.out
                obtain ⟨A9, c9, e9, hm9, hc9, hr9⟩ := own_reads hoB
                subst e9
                have HB := Lib.hid (show ∀ W, Grow wc W → BytesAt W W.heap.size A9 LB.length LB from fun W h => (hr9.below h).more h.size)
                have hLn : LB.length ≤ 2000000 := by omega
                have Hm9 := Lib.hid hm9
                have Hc9 := Lib.hid hc9
                have HgB := Lib.hid hgB
                clear hcut hoB hr9 hm9 hc9 hgB hLB
                go_wp2_with fail
                refine (gets2 wc A9 _ c9 LB _ _ _ _ _ _ (HB.out _ (Grow.refl _)) hLn Hm9.out Hc9.out (by omega)).mono ?_
                rintro e w6 ⟨rfl, hg6⟩
                have HG6 := Lib.hid hg6
                clear hg6
                go_wp2_with fail
                refine (gets2 w6 A9 _ c9 LB _ _ _ _ _ _ (HB.out _ HG6.out) hLn Hm9.out Hc9.out (by omega)).mono ?_
                rintro e w7 ⟨rfl, hg7⟩
                have HG7 := Lib.hid (HG6.out.trans hg7)
                clear hg7
                go_wp2_with fail
                refine (gets2 w7 A9 _ c9 LB _ _ _ _ _ _ (HB.out _ HG7.out) hLn Hm9.out Hc9.out (by omega)).mono ?_
                rintro e wy ⟨rfl, hg8⟩
                have HG8y : Hid (Grow w8 wy) := (hgj.out.trans HgB.out).trans (HG7.out.trans hg8)
                clear hg8
                go_wp2
                go_roundw
                case rel => exact ⟨j + 1, by omega, by go_num, HG8y⟩
                case measure => simp [intOf]; omega
            · obtain rfl : j = 4 := by omega
              have dj : decide (((4 : Nat) : Int) < 4) = false := decide_eq_false (by omega)
              have hfin : Hid (Grow w wr) := HG8.out.trans hgj.out
              go_wp2
              go_roundw
              case rel => exact ⟨k + 1, by omega, by go_num, hfin⟩
              case measure => simp [intOf]; omega
        · have e9 : (k : Int) = 9 := by omega
          rw [e9]
          clear e9 hlt hk
          go_wp2_with fail
          go_loopw [11] (fun v11 wr => ∃ n : Nat, n ≤ 64 ∧ v11 = .int .i64 (n : Int) ∧ Hid (Grow w wr)) (fun v11 _ => 64 - (intOf v11).toNat)
          case atStart => exact ⟨0, by omega, rfl, hg⟩
          case round =>
            clear hg
            obtain ⟨n, hn, rfl, hg⟩ := hrel
            by_cases hlt : n < 64
            · have dn : decide ((n : Int) < 64) = true := decide_eq_true (by omega)
              obtain ⟨q, hq⟩ : ∃ q, q = n % 4 := ⟨_, rfl⟩
              have hq4 : (n : Int) % 4 = (q : Int) := by omega
              have hq3 : q ≤ 3 := by omega
              clear hq
              go_wp2_with fail
              refine (does2 _ _ _ q 3 _ ([_, _, _].take q) (by simp) hq3 (by omega) ((IntsAt.made3 wr 3 _ _ _).head q hq3) (fun y hy => ?_) (by omega)).mono ?_
              · have hy := List.mem_of_mem_take hy
                rcases List.mem_cons.1 hy with rfl | hy
                · omega
                rcases List.mem_cons.1 hy with rfl | hy
                · omega
                rcases List.mem_cons.1 hy with rfl | hy
                · omega
                cases hy
              · rintro e w5 ⟨r5, L5, rfl, hown5, -, hg5⟩
                obtain ⟨A5, c5, rfl, -, -, -⟩ := own_reads hown5
                have HG5 : Hid (Grow w w5) := hg.out.trans ((Grow.alloc _ _).trans hg5)
                clear hown5 hg5 hg
                go_wp2
                go_roundw
                case rel => exact ⟨n + 1, by omega, by go_num, HG5⟩
                case measure => simp [intOf]; omega
            · have e64 : (n : Int) = 64 := by omega
              rw [e64]
              clear e64 hlt hn
              have hG := hg.out
              have kc := fun (w : World) (C : Array Value) (n c : Nat) => Lib.run_convert_bytes_const (P := Tryz.prog) w 22 5 C n c Tryz.underlying22 Tryz.underlying5
              go_wp2_with (first | (go_at_call 9; refine (WNumber_nil _ _ _ _).mono ?_; rintro e w31 ⟨rfl, hg31⟩) | (go_at_call 10; refine (WFixed_nil _ _).mono ?_; rintro e w32 ⟨rfl, rfl⟩) | (go_at_call 11; refine (WText_nil2 _ _ _ _ _ _ (by simp)).mono ?_; rintro e w33 ⟨rfl, hg33⟩) | (go_at_call 12; refine (WRising_nil _ _ _ _).mono ?_; rintro e w34 ⟨rfl, rfl⟩) | (go_at_call 13; refine (WBytes_nil _).mono ?_; rintro e w35 ⟨rfl, rfl⟩) | (go_at_call 14; refine (RNumber_nil _ _).mono ?_; rintro e w36 ⟨rfl, rfl⟩) | (go_at_call 15; refine (RFixed_nil _).mono ?_; rintro e w37 ⟨rfl, rfl⟩) | (go_at_call 16; refine (RText_nil _ _).mono ?_; rintro e w38 ⟨rfl, rfl⟩) | (go_at_call 17; refine (RRising_nil _ _ _).mono ?_; rintro e w39 ⟨rfl, rfl⟩) | (go_at_call 18; refine (RLeft_nil _).mono ?_; rintro e w40 ⟨rfl, rfl⟩) | (go_at_call 19; refine (ROK_nil _).mono ?_; rintro e w41 ⟨rfl, rfl⟩) | (go_at_call 20; refine (awake02_any _).mono ?_; rintro e w42 ⟨rfl, hg42⟩))
              go_ret
              refine ⟨rfl, ?_⟩
              have h1 : Grow wr w31 := (Grow.alloc _ _).trans hg31
              have h2 : Grow w31 w33 := (Grow.alloc _ _).trans hg33
              exact ((hG.trans h1).trans h2).trans ((Grow.alloc _ _).trans hg42)
end Go.Proofs.YtcjbeaohmgfgoaaGreat
