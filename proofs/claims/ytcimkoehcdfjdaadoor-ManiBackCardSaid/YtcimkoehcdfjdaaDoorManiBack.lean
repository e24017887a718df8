/-
  The walk of mudlarklaw25.ManiBack: what is put is got, if it is right; damaged files are seen.
-/
import Derived.Test.YtcimkoehcdfjdaaDoorManiUse
import Derived.Test.YtcimkoehcdfjdaaDoorManifestOf
import Derived.Test.YtcimkoehcdfjdaaDoorManiOpen
import Derived.Test.YtcimkoehcdfjdaaDoorFrameBurst
import Derived.Test.YtcimkoehcdfjdaaDoorPick
namespace Go.Proofs.YtcimkoehcdfjdaaDoor
open Go.RowKit WireM
set_option linter.unusedVariables false

theorem sameL_no {a b : List UInt8} (h : a ≠ b) : sameL a b = false := by
  unfold sameL
  simpa using h
theorem getF_none {b : List UInt8} (h : getB b = none) : getF b = none := by rw [getF, h]

set_option maxRecDepth 100000 in
set_option maxHeartbeats 4000000 in
theorem mback_walk (w : World) (v : Value) (m : ManiM) (bit : Int) (mask : BitVec 32) (cut : Int) (A4 : Option Addr) (n4 c4 : Nat) (more : List UInt8) (hM : ManiAt w w.heap.size v m)
    (hb1 : -9223372036854775808 ≤ bit) (hb2 : bit ≤ 9223372036854775807) (hk1 : -9223372036854775808 ≤ cut) (hk2 : cut ≤ 9223372036854775807) (hR4 : BytesAt w w.heap.size A4 n4 more) (hL : LaidOk w) :
    Calls Tryd.prog 6 #[v, .int .i64 bit, .int .u32 (mask.toNat : Int), .int .i64 cut, .slice A4 n4 c4] w fun e w' => e = .returned (.bool true) ∧ Below w.heap.size w w' := by
  have bytesTy : AppTy Tryd.prog 25 5 (.int .u8 0) 1 1 := AppTy.mk' Tryd.underlying25 (by kernel_rfl) rfl (by decide)
  have Hml := Lib.hid hR4.len
  have HR4 := Lib.hid hR4
  have hM0 := hM
  obtain ⟨⟨A, n, c, rfl, -⟩, -⟩ := hM
  obtain ⟨W0, hW0⟩ : ∃ W0, w.alloc (.cells #[.int .i64 m.gen, .slice A n c] 34) = W0 := ⟨_, rfl⟩
  have hG0 : Grow w W0 := by rw [← hW0]; exact Grow.alloc _ _
  have hB0 : Blk W0 w.heap.size 34 #[.int .i64 m.gen, .slice A n c] := by rw [← hW0]; exact Blk.new _ _ _
  have HM0 := Lib.hid (hM0.grow (Nat.le_refl _) hG0)
  clear hM0 hR4
  go_enter Tryd.func6, Tryd.ntmps6
  go_wp2_with fail
  refine (awake25_any W0 (hL.grow hG0)).mono ?_
  rintro e w1 ⟨rfl, hg1⟩
  have hB1 := Grow.blkOf hg1 hB0
  have HM1 := Lib.hid (HM0.out.grow (Nat.le_refl _) hg1)
  have HG1 := Lib.hid (hG0.trans hg1)
  have hc0 := hB1.cell 0
  have hc1 := hB1.cell 1
  clear hB0 HM0 hG0 hg1 hW0
  go_wp2_with fail
  refine (ManifestOf_any w1 _ m HM1.out).mono ?_
  rintro e w2 ⟨N, rfl, hNl, hg2⟩
  have hB2 := Grow.blkOf hg2 hB1
  have HM2 := Lib.hid (HM1.out.grow (Nat.le_refl _) hg2)
  have HG2 := Lib.hid (HG1.out.trans hg2)
  clear hc0 hc1 HM1 hB1 HG1 hg2
  have hc0 := hB2.cell 0
  have hc1 := hB2.cell 1
  by_cases hbig : 3000 < N
  · have d1 : decide ((3000 : Int) < (N : Int)) = true := decide_eq_true (by omega)
    go_wp2
    go_ret
    exact ⟨rfl, HG2.out⟩
  · have d1 : decide ((3000 : Int) < (N : Int)) = false := decide_eq_false (by omega)
    by_cases hm : 3000 < n4
    · have d2 : decide ((3000 : Int) < (n4 : Int)) = true := decide_eq_true (by omega)
      go_wp2
      go_ret
      exact ⟨rfl, HG2.out⟩
    · have d2 : decide ((3000 : Int) < (n4 : Int)) = false := decide_eq_false (by omega)
      cases hr : maniRight m with
      | false =>
        have hput : Calls Tryd.prog 15 #[.agg #[.int .i64 m.gen, .slice A n c]] w2 fun e w' => e = .returned (.tuple #[.slice none 0 0, .int .i64 2]) ∧ Grow w2 w' := (MPut_any w2 _ m HM2.out).mono fun e w' ⟨hG, h⟩ => by
          rcases h with ⟨h, -⟩ | ⟨-, h⟩
          · rw [hr] at h; cases h
          · exact ⟨h, hG⟩
        have Hput := Lib.hid hput
        have Hr := Lib.hid hr
        clear hput hr
        go_wp2_with fail
        refine Hput.out.mono ?_
        rintro e w3 ⟨rfl, hg3⟩
        have hB3 := Grow.blkOf hg3 hB2
        have HM3 := Lib.hid (HM2.out.grow (Nat.le_refl _) hg3)
        have HG3 := Lib.hid (HG2.out.trans hg3)
        clear hc0 hc1 hB2 HM2 HG2 hg3 Hput
        have hc0 := hB3.cell 0
        have hc1 := hB3.cell 1
        go_wp2_with fail
        refine (Right_any w3 _ m HM3.out false Hr.out.symm).mono ?_
        rintro e w4 ⟨rfl, hg4⟩
        go_wp2
        go_ret
        exact ⟨rfl, HG3.out.trans hg4⟩
      | true =>
        obtain ⟨F, hF⟩ : ∃ F, F = mfileB m := ⟨_, rfl⟩
        have hFl : F.length ≤ 1000100 := by rw [hF]; exact mfile_len hr
        obtain ⟨f, hf⟩ : ∃ f, f = F.length := ⟨_, rfl⟩
        rw [← hf] at hFl
        have hg := getF_file hr
        have hput := MPut_yes w2 _ m HM2.out hr
        rw [← hF, ← hf] at hput
        rw [← hF] at hg
        have Hput := Lib.hid hput
        have HF := Lib.hid hF
        have Hf := Lib.hid hf
        have Hg := Lib.hid hg
        have Hr := Lib.hid hr
        have hf8 : 8 ≤ f := by rw [hf, hF, mfileB, fileB_len]; omega
        clear hF hf hg hput hr
        go_wp2_with fail
        refine Hput.out.mono ?_
        rintro e w3 ⟨A3, c3, rfl, h31, h32, h33, hg3⟩
        have H33 := Lib.hid h33
        have hB3 := Grow.blkOf hg3 hB2
        have HM3 := Lib.hid (HM2.out.grow (Nat.le_refl _) hg3)
        have HG3 := Lib.hid (HG2.out.trans hg3)
        clear hc0 hc1 hB2 HM2 HG2 hg3 Hput h33
        have hc0 := hB3.cell 0
        have hc1 := hB3.cell 1
        go_wp2_with fail
        refine (Right_any w3 _ m HM3.out true Hr.out.symm).mono ?_
        rintro e w4 ⟨rfl, hg4⟩
        have hB4 := Grow.blkOf hg4 hB3
        have HM4 := Lib.hid (HM3.out.grow (Nat.le_refl _) hg4)
        have HG4 := Lib.hid (HG3.out.trans hg4)
        have HG34 := Lib.hid hg4
        clear hc0 hc1 hB3 HM3 HG3 hg4
        go_wp2_with fail
        refine (MGet_yes w4 w3.heap.size A3 f c3 F m Hg.out (H33.out.below HG34.out) HG34.out.size h31 h32 (by omega)).mono ?_
        rintro e w5 ⟨A5, c5, rfl, hM5, hg5⟩
        have hB5 := Grow.blkOf hg5 hB4
        have HM5 := Lib.hid (HM4.out.grow (Nat.le_refl _) hg5)
        have HN5 := Lib.hid hM5
        have HG5 := Lib.hid (HG4.out.trans hg5)
        have HG35 := Lib.hid (show Grow w3 w5 from HG34.out.trans hg5)
        clear hB4 HM4 HG4 hg5 HG34 hM5
        obtain ⟨W6, hW6⟩ : ∃ W6, w5.alloc (.cells #[.int .i64 m.gen, .slice A5 m.shards.length c5] 34) = W6 := ⟨_, rfl⟩
        have hG6 : Grow w5 W6 := by rw [← hW6]; exact Grow.alloc _ _
        have hC6 : Blk W6 w5.heap.size 34 #[.int .i64 m.gen, .slice A5 m.shards.length c5] := by rw [← hW6]; exact Blk.new _ _ _
        have hB6 := Grow.blkOf hG6 hB5
        have HM6 := Lib.hid (HM5.out.grow (Nat.le_refl _) hG6)
        have HN6 := Lib.hid (HN5.out.grow (Nat.le_refl _) hG6)
        have HG6 := Lib.hid (HG5.out.trans hG6)
        have HG36 := Lib.hid (show Grow w3 W6 from HG35.out.trans hG6)
        have hc0 := hB6.cell 0
        have hc1 := hB6.cell 1
        have hn0 := hC6.cell 0
        have hn1 := hC6.cell 1
        clear hG6 hB5 HM5 HN5 HG5 HG35 hB6 hC6
        go_wp2_with fail
        refine (SameManifest_any W6 _ _ m m HM6.out HN6.out true (sameManiB_iff.2 rfl).symm).mono ?_
        rintro e w7 ⟨rfl, hg7⟩
        have HG7 := Lib.hid (HG6.out.trans hg7)
        have HG37 := Lib.hid (show Grow w3 w7 from HG36.out.trans hg7)
        clear hc0 hc1 hn0 hn1 HM6 HN6 HG6 HG36 hg7 hW6
        go_wp2_with fail
        refine (Burst_any w7 w3.heap.size A3 f c3 F bit mask (H33.out.below HG37.out) HG37.out.size (by omega) hb1 hb2).mono ?_
        rintro e w8 ⟨r8, cc, rfl, hbu, ho8, hg8⟩
        have hccl : cc.length = f := by rw [Hf.out]; exact hbu.1
        rw [← Hf.out] at ho8
        obtain ⟨A8, c8, rfl, h81, h82, h83⟩ := own_reads ho8
        have H83 : Hid (BytesAt w8 w8.heap.size A8 f cc) := h83
        have HG8 := Lib.hid (show Grow w w8 from HG7.out.trans hg8)
        have HG38 := Lib.hid (show Grow w3 w8 from HG37.out.trans hg8)
        have Hccl := Lib.hid hccl
        have Hbu := Lib.hid hbu
        clear ho8 h83 hg8 hccl hbu HG7 HG37
        have hboth : Calls Tryd.prog 13 #[.slice A8 f c8] w8 fun e w' => (∃ (g9 : Int) (A9 : Option Addr) (n9 c9 : Nat) (x9 : Nat) (sm : Bool), e = .returned (.tuple #[.agg #[.int .i64 g9, .slice A9 n9 c9], .int .i64 (x9 : Int)]) ∧ Hid (sameL cc F = sm) ∧ ((sm = true ∧ x9 = 0) ∨ (sm = false ∧ x9 = 9))) ∧ Grow w8 w' := by
          by_cases hcf : cc = F
          · refine (MGet_yes w8 w8.heap.size A8 f c8 cc m (by rw [hcf]; exact Hg.out) H83.out (Nat.le_refl _) h81 h82 (by omega)).mono ?_
            rintro e w9 ⟨A9, c9, rfl, -, hg9⟩
            exact ⟨⟨_, A9, _, c9, 0, true, rfl, by rw [hcf]; exact Lib.hid (sameL_self F), Or.inl ⟨rfl, rfl⟩⟩, hg9⟩
          · have hnone : getF cc = none := getF_none (get_damaged (ts := [⟨1, maniB m⟩]) (by
              rw [show fileB [⟨1, maniB m⟩] = F from HF.out.symm]
              exact Hbu.out.seen hcf))
            refine (MGet_no w8 w8.heap.size A8 f c8 cc hnone H83.out (Nat.le_refl _) h81 h82 (by omega)).mono ?_
            rintro e w9 ⟨rfl, hg9⟩
            exact ⟨⟨0, none, 0, 0, 9, false, rfl, Lib.hid (sameL_no hcf), Or.inr ⟨rfl, rfl⟩⟩, hg9⟩
        have Hboth := Lib.hid hboth
        clear hboth
        go_wp2_with fail
        refine Hboth.out.mono ?_
        rintro e w9 ⟨⟨g9, A9, n9, c9, x9, sm, rfl, hsm, hcase⟩, hg9⟩
        obtain ⟨W9, hW9⟩ : ∃ W9, w9.alloc (.cells #[.int .i64 g9, .slice A9 n9 c9] 34) = W9 := ⟨_, rfl⟩
        have hG9 : Grow w9 W9 := by rw [← hW9]; exact Grow.alloc _ _
        have HG9 := Lib.hid (show Grow w W9 from (HG8.out.trans hg9).trans hG9)
        have HG39 := Lib.hid (show Grow w3 W9 from (HG38.out.trans hg9).trans hG9)
        have HG89 := Lib.hid (show Grow w8 W9 from hg9.trans hG9)
        clear hg9 hG9 HG8 HG38 Hboth
        go_wp2_with fail
        refine (SameBytes_any W9 w8.heap.size w3.heap.size A8 A3 f c8 f c3 cc F (H83.out.below HG89.out) (H33.out.below HG39.out) (by simp only [maxLen]; omega) (by simp only [maxLen]; omega)).mono ?_
        rw [hsm.out]
        rintro e w10 ⟨rfl, q9, rfl⟩
        have HG10 := Lib.hid (show Grow w (W9.drewN q9) from HG9.out.trans (Grow.drewN _ _))
        have HG310 := Lib.hid (show Grow w3 (W9.drewN q9) from HG39.out.trans (Grow.drewN _ _))
        have hkp := pickI_nonneg cut (f : Int)
        have hkp2 := pickI_lt cut (f : Int) (by omega)
        obtain ⟨k, hk⟩ := Int.eq_ofNat_of_zero_le hkp
        rw [hk] at hkp2
        have hpick := Pick_any cut (f : Int) (W9.drewN q9) hk1 hk2 (by omega)
        rw [hk] at hpick
        have Hpick := Lib.hid hpick
        have hcut := fun W => run_cut_head bytesTy A3 f c3 k .i64 (k : Int) rfl (by omega) W
        clear hkp hk hpick hW9 HG9 HG39
        rcases hcase with ⟨rfl, rfl⟩ | ⟨rfl, rfl⟩
        all_goals
          go_wp2_with fail
          refine Hpick.out.mono ?_
          rintro e w11 ⟨rfl, rfl⟩
          go_wp2_with fail
          refine (MGet_no _ w3.heap.size A3 k c3 (F.take k) (getF_none (by rw [HF.out]; exact get_cut _ k (by rw [← mfileB, ← HF.out, ← Hf.out]; omega) (by rw [← mfileB, ← HF.out, ← Hf.out]; omega))) ((H33.out.below HG310.out).head k (by omega)) HG310.out.size (by omega) h32 (by omega)).mono ?_
          rintro e w12 ⟨rfl, hg12⟩
          have HGe := Lib.hid (show Grow w ((w12.alloc (.cells #[.int .i64 0, .slice none 0 0] 34)).alloc (.cells #[] 5)) from ((HG10.out.trans hg12).trans (Grow.alloc _ _)).trans (Grow.alloc _ _))
          have HG3e := Lib.hid (show Grow w3 ((w12.alloc (.cells #[.int .i64 0, .slice none 0 0] 34)).alloc (.cells #[] 5)) from ((HG310.out.trans hg12).trans (Grow.alloc _ _)).trans (Grow.alloc _ _))
          have HGz := Lib.hid (show w.heap.size ≤ (w12.alloc (.cells #[.int .i64 0, .slice none 0 0] 34)).heap.size from ((HG10.out.trans hg12).trans (Grow.alloc _ _)).size)
          have Hms := Lib.hid (World.ownsRow_made (base := w12.heap.size + 1) (e := 5) (size := 1) (w12.alloc (.cells #[.int .i64 0, .slice none 0 0] 34)) #[] 0 (by simp) (by decide) rfl)
          clear hg12
          go_wp2_with (first | (at_builtin; refine wpList_append_reads _ rfl (.tmp 90) (.tmp 91) rfl bytesTy (v := .slice (some ⟨w12.heap.size + 1, 0, none⟩) 0 0) rfl (by have h := Hms.out; simpa using h) rfl (H33.out.below HG3e.out) (b8_one F) (by simp only [maxLen]; omega) (by omega) (by simp) ?_; intro v12 w13 hown12 hgrow12 hat12; simp only [Nat.zero_add, List.nil_append] at hown12; have HG12 := Lib.hid (show Grow w w13 from Below.grown HGe.out hgrow12 HGe.out.size (fun q hq => by simp [Value.ownBlock] at hq; have h1 := HGz.out; simp at h1; omega)); have Hz12 := Lib.hid (show w12.heap.size + 1 ≤ w13.heap.size from by have h1 := hgrow12.size; simp at h1; omega); have Hown12 := Lib.hid hown12; clear hown12 hgrow12 hat12) | (at_builtin; refine wpList_append_reads _ rfl (.tmp 92) (.tmp 93) rfl bytesTy rfl Hown12.out rfl (HR4.out.below HG12.out) (b8_one more) (by simp only [maxLen]; omega) (by omega) (by have h := Hz12.out; simpa using h) ?_; intro v13 w14 hown13 hgrow13 hat13; have HG13 := Lib.hid (show Grow w w14 from Below.grown HG12.out hgrow13 HG12.out.size (fun q hq => by have h1 := (Hown12.out.lt q hq).1; have h2 := HGz.out; simp at h1 h2; omega)); have Hown13 := Lib.hid hown13; clear hown13 hgrow13 hat13))
          obtain ⟨A13, c13, rfl, h131, h132, h133⟩ := own_reads Hown13.out
          have hlm : (F ++ more).map b8 = F.map b8 ++ more.map b8 := List.map_append
          have H133 : Hid (BytesAt w14 w14.heap.size A13 (f + n4) (F ++ more)) := by
            show ReadsAt _ _ _ _ _ _
            rw [hlm]
            exact h133
          clear h133 hlm
          by_cases hn0 : n4 = 0
          · have hme : more = [] := List.eq_nil_of_length_eq_zero (by rw [Hml.out]; exact hn0)
            have d3 : decide (0 < n4) = false := decide_eq_false (by omega)
            refine (MGet_yes w14 w14.heap.size A13 (f + n4) c13 (F ++ more) m (by rw [hme, List.append_nil]; exact Hg.out) H133.out (Nat.le_refl _) h131 h132 (by omega)).mono ?_
            rintro e w15 ⟨A15, c15, rfl, -, hg15⟩
            have HG15 := Lib.hid (HG13.out.trans hg15)
            clear hme hn0 hg15
            go_wp2
            go_ret
            exact ⟨rfl, HG15.out.trans (Grow.alloc _ _)⟩
          · have d3 : decide (0 < n4) = true := decide_eq_true (by omega)
            refine (MGet_no w14 w14.heap.size A13 (f + n4) c13 (F ++ more) (getF_none (by rw [HF.out]; exact get_more _ more (by rw [← mfileB, ← HF.out, ← Hf.out]; omega) (fun e => hn0 (by rw [← Hml.out, e]; rfl)))) H133.out (Nat.le_refl _) h131 h132 (by omega)).mono ?_
            rintro e w15 ⟨rfl, hg15⟩
            have HG15 := Lib.hid (HG13.out.trans hg15)
            clear hg15
            go_wp2
            go_ret
            exact ⟨rfl, HG15.out.trans (Grow.alloc _ _)⟩
end Go.Proofs.YtcimkoehcdfjdaaDoor
