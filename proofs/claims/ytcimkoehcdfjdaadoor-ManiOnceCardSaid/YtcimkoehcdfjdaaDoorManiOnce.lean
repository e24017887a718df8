/-
  The walk of mudlarklaw25.ManiOnce: there is one way to write a manifest.
-/
import Derived.Test.YtcimkoehcdfjdaaDoorManiUse
namespace Go.Proofs.YtcimkoehcdfjdaaDoor
open Go.RowKit WireM
set_option linter.unusedVariables false

theorem file_one_len {l : List UInt8} (h : l.length ≤ 3000) (t : UInt8) : (fileB [⟨t, l⟩]).length ≤ 3100 := by
  have h2 := enc_len6 l.length (by omega)
  rw [fileB_len]
  simp only [bodyB, partB, List.length_append, List.length_cons, List.length_nil]
  omega
theorem getF_file1 {l : List UInt8} (h : (fileB [⟨1, l⟩]).length ≤ 67108864) : getF (fileB [⟨1, l⟩]) = getM l := getF_one (get_file _ h) rfl

set_option maxRecDepth 100000 in
set_option maxHeartbeats 4000000 in
theorem monce_walk (w : World) (A : Option Addr) (n c : Nat) (b : List UInt8) (hR : BytesAt w w.heap.size A n b) (hnc : n ≤ c) (hc : c ≤ maxLen) (hL : LaidOk w) :
    Calls Tryd.prog 4 #[.slice A n c] w fun e w' => e = .returned (.bool true) ∧ Below w.heap.size w w' := by
  have hlen := hR.len
  have HR := Lib.hid hR
  have Hlen := Lib.hid hlen
  have hc2 := hc
  unfold maxLen at hc2
  clear hlen hR
  go_enter Tryd.func4, Tryd.ntmps4
  go_wp2_with fail
  refine (awake25_any w hL).mono ?_
  rintro e w1 ⟨rfl, hg1⟩
  by_cases hn : 3000 < n
  · have d1 : decide ((3000 : Int) < (n : Int)) = true := decide_eq_true (by omega)
    go_wp2
    go_ret
    exact ⟨rfl, hg1⟩
  · have d1 : decide ((3000 : Int) < (n : Int)) = false := decide_eq_false (by omega)
    go_wp2_with fail
    obtain ⟨W, hW⟩ : ∃ W, w1.alloc (.cells #[.int .u8 1, .slice A n c] 31) = W := ⟨_, rfl⟩
    have hG1 : Grow w W := by rw [← hW]; exact hg1.trans (Grow.alloc _ _)
    have hT : PartsAt W W.heap.size (some ⟨w1.heap.size, 0, none⟩) 1 [⟨1, b⟩] := by
      refine PartsAt.one (tag := 1) (by rw [← hW]; exact Blk.new _ _ _) (by rw [← hW]; simp) ((HR.out.below hG1).more hG1.size) hnc hc (by omega)
    obtain ⟨F, hF⟩ : ∃ F, F = fileB [⟨1, b⟩] := ⟨_, rfl⟩
    have hFl : F.length ≤ 3100 := by rw [hF]; exact file_one_len (by rw [Hlen.out]; omega) 1
    have HFg := Lib.hid (show getF F = getM b by rw [hF]; exact getF_file1 (by rw [← hF]; omega))
    have HF := Lib.hid hF
    rw [hW]
    clear hW
    have hP := Put_any W W.heap.size (some ⟨w1.heap.size, 0, none⟩) 1 1 [⟨1, b⟩] hT (Nat.le_refl _) (by omega) (by rw [← hF]; omega)
    rw [← hF] at hP
    refine hP.mono ?_
    rintro e w2 ⟨r, rfl, ho, hg2⟩
    obtain ⟨A2, c2, rfl, h21, h22, h23⟩ := own_reads ho
    obtain ⟨N, hN⟩ : ∃ N, N = F.length := ⟨_, rfl⟩
    rw [← hN] at h21 h23 hFl ⊢
    have H23 : Hid (BytesAt w2 w2.heap.size A2 N F) := h23
    have HG2 := Lib.hid (hG1.trans hg2)
    clear hP ho h23 hT hg1 hG1 hg2 hF hN
    go_wp2_with fail
    cases hg : getF F with
    | none =>
      refine (MGet_no w2 w2.heap.size A2 N c2 F hg H23.out (Nat.le_refl _) h21 h22 (by omega)).mono ?_
      rintro e w3 ⟨rfl, hg3⟩
      have HG3 := Lib.hid (HG2.out.trans hg3)
      clear hg hg3
      go_wp2_with fail
      obtain ⟨W4, hW4⟩ : ∃ W4, w3.alloc (.cells #[.int .i64 0, .slice none 0 0] 34) = W4 := ⟨_, rfl⟩
      have HG4 := Lib.hid (show Grow w W4 by rw [← hW4]; exact HG3.out.trans (Grow.alloc _ _))
      rw [hW4]
      clear hW4
      refine (SameManifest_any W4 _ _ ⟨0, []⟩ ⟨0, []⟩ (ManiAt.zero W4) (ManiAt.zero W4) true (sameManiB_iff.2 rfl).symm).mono ?_
      rintro e w5 ⟨rfl, hg5⟩
      go_wp2
      go_ret
      exact ⟨rfl, HG4.out.trans hg5⟩
    | some m =>
      have hr := getF_right hg
      have hb : b = maniB m := (getM_one (HFg.out.symm.trans hg)).2
      refine (MGet_yes w2 w2.heap.size A2 N c2 F m hg H23.out (Nat.le_refl _) h21 h22 (by omega)).mono ?_
      rintro e w3 ⟨A3, c3, rfl, hM3, hg3⟩
      have H33 := Lib.hid (H23.out.below hg3)
      have HG3 := Lib.hid (HG2.out.trans hg3)
      have Hr := Lib.hid hr
      have HM3 := Lib.hid hM3
      have HFm := Lib.hid (show F = mfileB m by rw [HF.out, hb, mfileB])
      have hz3 := hg3.size
      clear hg hg3 hr hb hM3 H23 HG2
      go_wp2_with fail
      obtain ⟨W4, hW4⟩ : ∃ W4, w3.alloc (.cells #[.int .i64 m.gen, .slice A3 m.shards.length c3] 34) = W4 := ⟨_, rfl⟩
      have hG4 : Grow w3 W4 := by rw [← hW4]; exact Grow.alloc _ _
      have HB4 := Lib.hid (show Blk W4 w3.heap.size 34 #[.int .i64 m.gen, .slice A3 m.shards.length c3] by rw [← hW4]; exact Blk.new _ _ _)
      have HM4 := Lib.hid (HM3.out.grow (Nat.le_refl _) hG4)
      have HG4 := Lib.hid (HG3.out.trans hG4)
      have H43 := Lib.hid (H33.out.below (Below.mono hG4 hz3))
      have hz4 := hG4.size
      rw [hW4]
      clear hW4 hG4 HM3 HG3 H33
      refine (MPut_yes W4 _ m HM4.out Hr.out).mono ?_
      rintro e w5 ⟨A5, c5, rfl, h51, h52, h53, hg5⟩
      have H53 : Hid (BytesAt w5 w5.heap.size A5 N F) := by
        have h := h53
        have e := HFm.out
        have e2 : (mfileB m).length = N := by rw [← e]; exact H43.out.len
        rw [← e] at h
        rw [← e] at e2
        rw [e2] at h
        exact h
      have e5 : (mfileB m).length = N := by rw [← HFm.out]; exact H43.out.len
      rw [e5] at h51 ⊢
      have hB5 := Grow.blkOf hg5 HB4.out
      have hc0 := hB5.cell 0
      have hc1 := hB5.cell 1
      have HM5 := Lib.hid (HM4.out.grow (Nat.le_refl _) hg5)
      have HG5 := Lib.hid (HG4.out.trans hg5)
      have H63 := Lib.hid (H43.out.below (Below.mono hg5 (Nat.le_trans hz3 hz4)))
      clear HM4 HG4 HB4 H43 h53 e5 hB5
      go_wp2_with fail
      refine (Right_any w5 _ m HM5.out true Hr.out.symm).mono ?_
      rintro e w6 ⟨rfl, hg6⟩
      have HG6 := Lib.hid (HG5.out.trans hg6)
      have Hg6 := Lib.hid hg6
      have hz5 := hg5.size
      clear hg6 hc0 hc1 HM5 HG5
      go_wp2_with fail
      refine (SameBytes_any w6 w2.heap.size w5.heap.size A2 A5 N c2 N c5 F F (H63.out.below (Below.mono Hg6.out (by omega))) (H53.out.below Hg6.out) (by simp only [maxLen]; omega) (by simp only [maxLen]; omega)).mono ?_
      rw [sameL_self]
      rintro e w7 ⟨rfl, q, rfl⟩
      go_wp2
      go_ret
      exact ⟨rfl, HG6.out.trans (Grow.drewN _ _)⟩
end Go.Proofs.YtcimkoehcdfjdaaDoor
