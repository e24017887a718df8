/-
  The walk of mudlarklaw03.FrameSafe: what is put is got; damaged files are seen.
-/
import Derived.Test.YtbbjeokecgnfpaaFrameAwake
import Derived.Test.YtbbjeokecgnfpaaFrameBurst
import Derived.Test.YtbbjeokecgnfpaaSameParts
import Derived.Test.YtbbjeokecgnfpaaPick
namespace Go.Proofs.Ytbbjeokecgnfpaa
open Go.RowKit WireM

theorem samePartsB_self : ∀ ts : List PartM, samePartsB ts ts = true
  | [] => rfl
  | t :: r => by rw [samePartsB, samePartsB_self r, samePartB, sameL_self]; simp
theorem sameL_ne {a b : List UInt8} (h : a ≠ b) : sameL a b = false := by
  unfold sameL
  simpa using h

set_option maxRecDepth 100000 in
set_option maxHeartbeats 4000000 in
theorem safe_walk (w : World) (A : Option Addr) (n c : Nat) (ts : List PartM) (bit : Int) (mask : BitVec 32) (cut : Int) (A4 : Option Addr) (n4 c4 : Nat) (more : List UInt8) (hT : PartsAt w w.heap.size A n ts) (hn : n ≤ 4398046510976)
    (hb1 : -9223372036854775808 ≤ bit) (hb2 : bit ≤ 9223372036854775807) (hk1 : -9223372036854775808 ≤ cut) (hk2 : cut ≤ 9223372036854775807) (hM : BytesAt w w.heap.size A4 n4 more) :
    Calls Try.prog 4 #[.slice A n c, .int .i64 bit, .int .u32 (mask.toNat : Int), .int .i64 cut, .slice A4 n4 c4] w fun e w' => e = .returned (.bool true) ∧ Below w.heap.size w w' := by
  have bytesTy : AppTy Try.prog 22 5 (.int .u8 0) 1 1 := AppTy.mk' Try.underlying22 (by kernel_rfl) rfl (by decide)
  have HT := Lib.hid hT
  have HM := Lib.hid hM
  have Hml := Lib.hid hM.len
  clear hT hM
  go_enter Try.func4, Try.ntmps4
  go_wp2_with fail
  refine (awake03_any w).mono ?_
  rintro e w1 ⟨rfl, hg1⟩
  go_wp2_with fail
  refine Calls.mono (show Calls _ _ #[.slice A n c, .int .i64 10000] _ _ from PartsOf_any w1 w.heap.size A n c 10000 ts (HT.out.below hg1) hn (by omega)) ?_
  rintro e w2 ⟨N, hN, rfl, rfl⟩
  by_cases hbig : 10000 < N
  · have d1 : decide ((10000 : Int) < (N : Int)) = true := decide_eq_true (by omega)
    clear hN
    go_wp2
    go_ret
    exact ⟨rfl, hg1⟩
  · have d1 : decide ((10000 : Int) < (N : Int)) = false := decide_eq_false (by omega)
    have htot : partsTot ts ≤ 10000 := by rcases hN with h | h <;> omega
    clear hN hbig
    by_cases hm : 10000 < n4
    · have d2 : decide ((10000 : Int) < (n4 : Int)) = true := decide_eq_true (by omega)
      go_wp2
      go_ret
      exact ⟨rfl, hg1⟩
    · have d2 : decide ((10000 : Int) < (n4 : Int)) = false := decide_eq_false (by omega)
      have hbs := body_small ts (by omega)
      obtain ⟨F, hF⟩ : ∃ F, F = fileB ts := ⟨_, rfl⟩
      have hFl : F.length = 8 + (bodyB ts).length := by rw [hF, fileB_len]
      have hF8 : 8 ≤ F.length ∧ F.length ≤ 70008 := by omega
      obtain ⟨f, hf⟩ : ∃ f, f = F.length := ⟨_, rfl⟩
      rw [← hf] at hF8
      obtain ⟨hf1, hf2⟩ := hF8
      have hg := get_file ts (by rw [← hF, ← hf]; omega)
      rw [← hF] at hg
      have HF := Lib.hid hF
      have Hf := Lib.hid hf
      have Hg := Lib.hid hg
      have Hbt := Lib.hid (show ∀ t ∈ ts, t.b.length ≤ 140737488351232 from fun t ht => by have := part_le ht; omega)
      clear hF hFl hf hg hbs htot
      go_wp2_with fail
      refine (Put_any w1 w.heap.size A n c ts (HT.out.below hg1) hg1.size hn (by rw [← HF.out, ← Hf.out]; omega)).mono ?_
      rintro e w3 ⟨r3, rfl, ho3, hg3⟩
      rw [← HF.out, ← Hf.out] at ho3
      obtain ⟨A3, c3, rfl, h31, h32, h33⟩ := own_reads ho3
      have H33 : Hid (BytesAt w3 w3.heap.size A3 f F) := h33
      have HG3 := Lib.hid (show Grow w w3 from hg1.trans hg3)
      clear ho3 h33 hg1 hg3
      go_wp2_with fail
      refine (Get_yes w3 w3.heap.size A3 f c3 F ts Hg.out H33.out (Nat.le_refl _) h31 h32 (by omega)).mono ?_
      rintro e w4 ⟨v4, vs4, rfl, hP4, hg4⟩
      obtain ⟨A5, c5, rfl, h51, h52, h53⟩ := hP4.reads Hbt.out
      have HG4 := Lib.hid (show Grow w w4 from HG3.out.trans hg4)
      have HG34 := Lib.hid hg4
      have H53 := Lib.hid h53
      have Hlt := Lib.hid HT.out.len
      have htl : ts.length = n := Hlt.out
      rw [htl] at h51 ⊢
      clear hP4 h53 hg4 htl
      go_wp2_with fail
      refine (SameParts_any w4 A n c A5 n c5 ts ts ((HT.out.below HG4.out).more HG4.out.size) (by have h := H53.out; rw [Hlt.out] at h; exact h) hn hn).mono ?_
      rw [samePartsB_self]
      rintro e w5 ⟨rfl, hg5⟩
      have HG5 := Lib.hid (show Grow w w5 from HG4.out.trans hg5)
      have HG35 := Lib.hid (show Grow w3 w5 from HG34.out.trans hg5)
      clear hg5
      go_wp2_with fail
      have hpk := pickI_nonneg bit (8 * (f : Int))
      have hpk2 := pickI_lt bit (8 * (f : Int)) (by omega)
      refine (Pick_any bit (8 * (f : Int)) w5 hb1 hb2 (by omega)).mono ?_
      rintro e w6 ⟨rfl, rfl⟩
      generalize pickI bit (8 * (f : Int)) = pk at *
      go_wp2_with fail
      refine (Burst_any w5 w3.heap.size A3 f c3 F pk mask (H33.out.below HG35.out) HG35.out.size (by omega) (by omega) (by omega)).mono ?_
      rintro e w7 ⟨r7, cc, rfl, hbu, ho7, hg7⟩
      have hccl : cc.length = f := by rw [Hf.out]; exact hbu.1
      rw [← Hf.out] at ho7
      obtain ⟨A7, c7, rfl, h71, h72, h73⟩ := own_reads ho7
      have H73 : Hid (BytesAt w7 w7.heap.size A7 f cc) := h73
      have HG7 := Lib.hid (show Grow w w7 from HG5.out.trans hg7)
      have HG37 := Lib.hid (show Grow w3 w7 from HG35.out.trans hg7)
      have Hccl := Lib.hid hccl
      have Hbu := Lib.hid hbu
      clear ho7 h73 hg7 hpk hpk2 hccl hbu
      -- the turned bytes are the file, or nothing is got of them
      have hboth : Calls Try.prog 6 #[.slice A7 f c7] w7 fun e w' => (∃ (A8 : Option Addr) (n8 c8 : Nat) (x8 : Nat) (sm : Bool), e = .returned (.tuple #[.slice A8 n8 c8, .int .i64 (x8 : Int)]) ∧ Hid (sameL cc F = sm) ∧ ((sm = true) ∨ (sm = false ∧ n8 = 0 ∧ x8 = 9))) ∧ Grow w7 w' := by
        by_cases hcf : cc = F
        · refine (Get_yes w7 w7.heap.size A7 f c7 cc ts (by rw [hcf]; exact Hg.out) H73.out (Nat.le_refl _) h71 h72 (by omega)).mono ?_
          rintro e w8 ⟨v8, vs8, rfl, hP8, hg8⟩
          obtain ⟨A8, c8, rfl, -, -, -⟩ := own_reads hP8.own
          exact ⟨⟨A8, _, c8, 0, true, rfl, by rw [hcf]; exact Lib.hid (sameL_self F), Or.inl rfl⟩, hg8⟩
        · have hnone : getB cc = none := get_damaged (ts := ts) (by
            rw [← HF.out]
            exact Hbu.out.seen hcf)
          refine (Get_no w7 w7.heap.size A7 f c7 cc hnone H73.out (Nat.le_refl _) h71 h72 (by omega)).mono ?_
          rintro e w8 ⟨rfl, hg8⟩
          exact ⟨⟨none, 0, 0, 9, false, rfl, Lib.hid (sameL_ne hcf), Or.inr ⟨rfl, rfl, rfl⟩⟩, hg8⟩
      have Hboth := Lib.hid hboth
      clear hboth
      go_wp2_with fail
      refine Hboth.out.mono ?_
      rintro e w8 ⟨⟨A8, n8, c8, x8, sm, rfl, hsm, hcase⟩, hg8⟩
      have HG8 := Lib.hid (show Grow w w8 from HG7.out.trans hg8)
      have HG38 := Lib.hid (show Grow w3 w8 from HG37.out.trans hg8)
      have HG78 := Lib.hid hg8
      clear hg8
      go_wp2_with fail
      refine (SameBytes_any w8 w7.heap.size w3.heap.size A7 A3 f c7 f c3 cc F (H73.out.below HG78.out) (H33.out.below HG38.out) (by simp only [maxLen]; omega) (by simp only [maxLen]; omega)).mono ?_
      rw [hsm.out]
      rintro e w9 ⟨rfl, q9, rfl⟩
      have HG9 := Lib.hid (show Grow w (w8.drewN q9) from HG8.out.trans (Grow.drewN _ _))
      have HG39 := Lib.hid (show Grow w3 (w8.drewN q9) from HG38.out.trans (Grow.drewN _ _))
      have hkp := pickI_nonneg cut (f : Int)
      have hkp2 := pickI_lt cut (f : Int) (by omega)
      obtain ⟨k, hk⟩ := Int.eq_ofNat_of_zero_le hkp
      rw [hk] at hkp2
      have hpick := Pick_any cut (f : Int) (w8.drewN q9) hk1 hk2 (by omega)
      rw [hk] at hpick
      have Hpick := Lib.hid hpick
      have hcut := fun W => run_cut_head bytesTy A3 f c3 k .i64 (k : Int) rfl (by omega) W
      clear hkp hk hpick
      rcases hcase with rfl | ⟨rfl, rfl, rfl⟩
      all_goals
        go_wp2_with fail
        refine Hpick.out.mono ?_
        rintro e w10 ⟨rfl, rfl⟩
        go_wp2_with fail
        refine (Get_no _ w3.heap.size A3 k c3 (F.take k) (by rw [HF.out]; exact get_cut ts k (by rw [← HF.out, ← Hf.out]; omega) (by rw [← HF.out, ← Hf.out]; omega)) ((H33.out.below HG39.out).head k (by omega)) HG39.out.size (by omega) h32 (by omega)).mono ?_
        rintro e w11 ⟨rfl, hg11⟩
        have HGe := Lib.hid (show Grow w (w11.alloc (.cells #[] 5)) from (HG9.out.trans hg11).trans (Grow.alloc _ _))
        have HG3e := Lib.hid (show Grow w3 (w11.alloc (.cells #[] 5)) from (HG39.out.trans hg11).trans (Grow.alloc _ _))
        have HGz := Lib.hid (show w.heap.size ≤ w11.heap.size from (HG9.out.trans hg11).size)
        clear hg11
        go_wp2_with (first | (at_builtin; refine wpList_append_reads _ rfl (.tmp 91) (.tmp 92) rfl bytesTy (v := .slice (some ⟨w11.heap.size, 0, none⟩) 0 0) rfl (World.ownsRow_made w11 #[] 0 (Nat.le_refl _) (by decide) rfl) rfl (H33.out.below HG3e.out) (b8_one F) (by simp only [maxLen]; omega) (by omega) (by simp) ?_; intro v12 w12 hown12 hgrow12 hat12; simp only [Nat.zero_add, List.nil_append] at hown12; have HG12 := Lib.hid (show Grow w w12 from Below.grown HGe.out hgrow12 HGe.out.size (fun q hq => by simp [Value.ownBlock] at hq; have h1 := HGz.out; omega)); have Hz12 := Lib.hid (show w11.heap.size ≤ w12.heap.size from by have h1 := hgrow12.size; simp at h1; omega); have Hown12 := Lib.hid hown12; clear hown12 hgrow12 hat12) | (at_builtin; refine wpList_append_reads _ rfl (.tmp 93) (.tmp 94) rfl bytesTy rfl Hown12.out rfl (HM.out.below HG12.out) (b8_one more) (by simp only [maxLen]; omega) (by omega) Hz12.out ?_; intro v13 w13 hown13 hgrow13 hat13; have HG13 := Lib.hid (show Grow w w13 from Below.grown HG12.out hgrow13 HG12.out.size (fun q hq => by have h1 := (Hown12.out.lt q hq).1; have h2 := HGz.out; omega)); have Hown13 := Lib.hid hown13; clear hown13 hgrow13 hat13))
        obtain ⟨A13, c13, rfl, h131, h132, h133⟩ := own_reads Hown13.out
        have hlm : (F ++ more).map b8 = F.map b8 ++ more.map b8 := List.map_append
        have H133 : Hid (BytesAt w13 w13.heap.size A13 (f + n4) (F ++ more)) := by
          show ReadsAt _ _ _ _ _ _
          rw [hlm]
          exact h133
        clear h133 hlm
        by_cases hn0 : n4 = 0
        · have hme : more = [] := List.eq_nil_of_length_eq_zero (by rw [Hml.out]; exact hn0)
          have d3 : ((n4 : Int) == 0) = true := by rw [beq_iff_eq]; omega
          refine (Get_yes w13 w13.heap.size A13 (f + n4) c13 (F ++ more) ts (by rw [hme, List.append_nil]; exact Hg.out) H133.out (Nat.le_refl _) h131 h132 (by omega)).mono ?_
          rintro e w14 ⟨v14, vs14, rfl, hP14, hg14⟩
          obtain ⟨A14, c14, rfl, -, -, -⟩ := own_reads hP14.own
          have HG14 := Lib.hid (show Grow w w14 from HG13.out.trans hg14)
          clear hme hn0 hP14 hg14
          go_wp2
          go_ret
          exact ⟨rfl, HG14.out⟩
        · have d3 : ((n4 : Int) == 0) = false := by rw [beq_eq_false_iff_ne]; omega
          refine (Get_no w13 w13.heap.size A13 (f + n4) c13 (F ++ more) (by rw [HF.out]; exact get_more ts more (by rw [← HF.out, ← Hf.out]; omega) (fun e => hn0 (by rw [← Hml.out, e]; rfl))) H133.out (Nat.le_refl _) h131 h132 (by omega)).mono ?_
          rintro e w14 ⟨rfl, hg14⟩
          have HG14 := Lib.hid (show Grow w w14 from HG13.out.trans hg14)
          clear hg14
          go_wp2
          go_ret
          exact ⟨rfl, HG14.out⟩
end Go.Proofs.Ytbbjeokecgnfpaa
