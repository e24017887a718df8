/-
  The walks of mudlarklaw02's put and awake (the chapter's examples).
-/
import Derived.Test.YtcjbeaohmgfgoaaGreatPutKit
import Derived.Test.YtcjbeaohmgfgoaaGreatReads
import Derived.Test.YtcjbeaohmgfgoaaGreatRNumber
namespace Go.Proofs.YtcjbeaohmgfgoaaGreat
open Go.RowKit WireM

theorem enc_128 : enc 128 = [128, 1] := by rw [enc_big (by decide), enc_small (by decide)]; rfl
theorem enc_300 : enc 300 = [172, 2] := by rw [enc_big (by decide), enc_small (by decide)]; rfl
theorem put_told {L : List Int} (h : fitsB L = true) : told (stOf ([] ++ if false || !fitsB L then [] else encAll L) (false || !fitsB L)) = encAll L := by
  rw [h]
  rfl

/-- a new writer -/
theorem Wr.fresh (w : World) : Wr 65 (w.alloc (.cells #[.slice none 0 0, .bool false] 65)) w.heap.size w.heap.size (.slice none 0 0) [] false :=
  ⟨Blk.new _ _ _, World.ownsRow_nil _ _ _ _, Nat.le_refl _⟩

set_option maxRecDepth 100000 in
set_option maxHeartbeats 1000000 in
theorem put02_any (w : World) (B : Nat) (A : Option Addr) (n c : Nat) (L : List Int) (hR : IntsAt w B A n L) (hB : B ≤ w.heap.size) (hf : fitsB L = true) (hn : n ≤ 1000000) (hA : ∀ ad, A = some ad → ad.block < w.heap.size) :
    Calls Tryz.prog 58 #[.slice A n c] w fun e w' => ∃ r B', e = .returned r ∧ w.heap.size ≤ B' ∧ w'.ownsRow B' 5 1 r (encAll L).length ((encAll L).map b8) ∧ Grow w w' := by
  have hl := encAll_len L (fits_le hf)
  have hlen := hR.len
  have Hl := Lib.hid hl
  have Hlen := Lib.hid hlen
  have Hf := Lib.hid hf
  clear hl hlen hf
  go_enter Tryz.func58, Tryz.ntmps58
  go_wp2_with fail
  obtain ⟨W0, hW0⟩ : ∃ W0, w.alloc (.cells #[.slice none 0 0, .bool false] 65) = W0 := ⟨_, rfl⟩
  have hG : Grow w W0 := by rw [← hW0]; exact Grow.alloc _ _
  have hWr0 : Wr 65 W0 w.heap.size w.heap.size (.slice none 0 0) [] false := by rw [← hW0]; exact Wr.fresh w
  have hR0 : IntsAt W0 W0.heap.size A n L := ReadsAt.more (ReadsAt.keep hR fun p hp => hG.cell (Nat.lt_of_lt_of_le hp hB)) (Nat.le_trans hB hG.size)
  rw [hW0]
  refine (WNumber_any W0 w.heap.size w.heap.size _ [] false A n c L hWr0 hR0 (fun ad e hf => by have h1 := hA ad e; have h2 := hWr0.ge _ hf; omega) (by simp; omega) (by simp only [maxLen]; omega)).mono ?_
  rintro e w1 ⟨rfl, v', h1, h2⟩
  have hG1 : Grow w w1 := Below.trans hG (h2.keep.below (B := w.heap.size) hWr0.ge hG.size)
  have hln : ([] ++ if false || !fitsB L then [] else encAll L : List UInt8).length ≤ 140737488355328 := by
    rw [Hf.out]
    have := Hl.out
    have := Hlen.out
    simp
    omega
  have hB1 := WBytes_any w1 _ _ v' _ _ h1 hln
  rw [put_told Hf.out] at hB1
  have HB1 := Lib.hid hB1
  clear hB1 hln hR0 hWr0 h1 h2
  go_wp2_with fail
  refine HB1.out.mono ?_
  rintro e w2 ⟨r, rfl, hown, hg⟩
  go_wp2
  go_ret
  exact ⟨r, _, rfl, hG1.size, hown, hG1.trans hg⟩

theorem told_rising : told (putRising [3, 4, 9] (some [])) = [3, 3, 0, 4] := by
  have e3 : enc 3 = [3] := by rw [enc_small (by decide)]; rfl
  have e0 : enc 0 = [0] := by rw [enc_small (by decide)]; rfl
  have e4 : enc 4 = [4] := by rw [enc_small (by decide)]; rfl
  simp [putRising, putRise, putNum, maxNum, e3, e0, e4, told]
theorem encAll_four : encAll [0, 127, 128, 300] = [0, 127, 128, 1, 172, 2] := by
  have e0 : enc 0 = [0] := by rw [enc_small (by decide)]; rfl
  have e1 : enc 127 = [127] := by rw [enc_small (by decide)]; rfl
  simp [encAll, enc_128, enc_300, e0, e1]
theorem num_300 : num 300 (some [172, 2]) = (300, some []) := by decide

set_option maxRecDepth 100000 in
set_option maxHeartbeats 2000000 in
theorem awake02_any (w : World) : Calls Tryz.prog 20 #[] w fun e w' => e = .returned (.bool true) ∧ Grow w w' := by
  go_enter Tryz.func20, Tryz.ntmps20
  go_wp2_with fail
  obtain ⟨W0, hW0⟩ : ∃ W0, (w.alloc (.cells #[.slice none 0 0, .bool false] 65)).alloc (.cells #[.int .i64 3, .int .i64 4, .int .i64 9] 3) = W0 := ⟨_, rfl⟩
  have hz1 : (w.alloc (.cells #[.slice none 0 0, .bool false] 65)).heap.size = w.heap.size + 1 := by simp
  have hG : Grow w W0 := by rw [← hW0]; exact (Grow.alloc _ _).trans (Grow.alloc _ _)
  have hWr0 : Wr 65 W0 w.heap.size w.heap.size (.slice none 0 0) [] false := by rw [← hW0]; exact (Wr.fresh w).grow (Grow.alloc _ _)
  have hb0 : Blk W0 (w.heap.size + 1) 3 ([3, 4, 9].map i64v).toArray := by rw [← hW0, ← hz1]; exact Blk.new _ _ _
  have hlt0 := hb0.lt
  have hI0 : IntsAt W0 W0.heap.size (some ⟨w.heap.size + 1, 0, none⟩) 3 [3, 4, 9] := (IntsAt.of_row (l := [3, 4, 9]) hb0.cells hlt0)
  have hne : ¬ FootS w.heap.size (.slice none 0 0) (w.heap.size + 1) := by
    rintro (h | h)
    · omega
    · cases h
  rw [hW0]
  refine (WRising1_any W0 w.heap.size w.heap.size _ [] false _ 3 3 [3, 4, 9] hWr0 hI0 (fun _ ad e => by injection e with e; subst e; exact hne) (by simp)).mono ?_
  rintro e w1 ⟨rfl, v1, l1, b1, h1, h2, h3, h4⟩
  have hG1 : Grow w w1 := Below.trans hG (h2.keep.below (B := w.heap.size) hWr0.ge hG.size)
  have Ht := Lib.hid (show told (stOf l1 b1) = [3, 3, 0, 4] by rw [h3]; exact told_rising)
  have hl1 : l1.length ≤ 100 := by simp at h4; omega
  clear hW0 hz1 hWr0 hb0 hI0 hne h2 h3 h4 hlt0 hG
  go_wp2_with fail
  have b1' : Blk (w1.alloc (.cells #[.int .i64 0, .int .i64 127, .int .i64 128, .int .i64 300] 3)) w1.heap.size 3 ([0, 127, 128, 300].map i64v).toArray := Blk.new _ _ _
  have hI1 := (IntsAt.of_row (l := [0, 127, 128, 300]) b1'.cells b1'.lt)
  refine (put02_any _ _ _ 4 4 [0, 127, 128, 300] hI1 (Nat.le_refl _) (by decide) (by omega) (fun ad e => by injection e with e; subst e; exact b1'.lt)).mono ?_
  rw [encAll_four]
  rintro e w2 ⟨r2, B2, rfl, hB2, hown2, hg2⟩
  have hG2 : Grow w1 w2 := (Grow.alloc _ _).trans hg2
  obtain ⟨A2, c2, rfl, hm2, hc2, hr2⟩ := own_reads hown2
  clear b1' hI1 hg2 hown2 hB2
  have hw2 := h1.grow hG2
  go_wp2_with fail
  have b2' : Blk (w2.alloc (.cells #[.int .u8 0, .int .u8 127, .int .u8 128, .int .u8 1, .int .u8 172, .int .u8 2] 5)) w2.heap.size 5 (([0, 127, 128, 1, 172, 2] : List UInt8).map b8).toArray := Blk.new _ _ _
  refine (bytes02_any _ w2.heap.size _ A2 _ 6 c2 6 6 [0, 127, 128, 1, 172, 2] [0, 127, 128, 1, 172, 2] (hr2.below (Grow.alloc _ _)) (BytesAt.of_row b2'.cells b2'.lt) (by simp only [maxLen]; omega) (by simp only [maxLen]; omega)).mono ?_
  rw [sameL_self]
  rintro e w3 ⟨rfl, q3, rfl⟩
  obtain ⟨W3, hW3⟩ : ∃ W3, (w2.alloc (.cells #[.int .u8 0, .int .u8 127, .int .u8 128, .int .u8 1, .int .u8 172, .int .u8 2] 5)).drewN q3 = W3 := ⟨_, rfl⟩
  have hg3 : Grow w2 W3 := by rw [← hW3]; exact (Grow.alloc _ _).trans (Grow.drewN _ _)
  rw [hW3]
  have hw3 := hw2.grow hg3
  clear hW3 b2' hr2 hw2 hm2 hc2
  go_wp2_with fail
  refine (WBytes_any W3 _ _ v1 l1 b1 hw3 (by omega)).mono ?_
  rw [Ht.out]
  rintro e w4 ⟨r4, rfl, hown4, hg4⟩
  obtain ⟨A4, c4, rfl, hm4, hc4, hr4⟩ := own_reads hown4
  clear hown4 hw3
  go_wp2_with fail
  have b4' : Blk (w4.alloc (.cells #[.int .u8 3, .int .u8 3, .int .u8 0, .int .u8 4] 5)) w4.heap.size 5 (([3, 3, 0, 4] : List UInt8).map b8).toArray := Blk.new _ _ _
  refine (bytes02_any _ w4.heap.size _ A4 _ 4 c4 4 4 [3, 3, 0, 4] [3, 3, 0, 4] (hr4.below (Grow.alloc _ _)) (BytesAt.of_row b4'.cells b4'.lt) (by simp only [maxLen]; omega) (by simp only [maxLen]; omega)).mono ?_
  rw [sameL_self]
  rintro e w5 ⟨rfl, q5, rfl⟩
  obtain ⟨W5, hW5⟩ : ∃ W5, (w4.alloc (.cells #[.int .u8 3, .int .u8 3, .int .u8 0, .int .u8 4] 5)).drewN q5 = W5 := ⟨_, rfl⟩
  have hg5 : Grow w4 W5 := by rw [← hW5]; exact (Grow.alloc _ _).trans (Grow.drewN _ _)
  rw [hW5]
  clear hW5 b4' hr4 hm4 hc4
  go_wp2_with fail
  have b6' : Blk (W5.alloc (.cells #[.int .u8 172, .int .u8 2] 5)) W5.heap.size 5 (([172, 2] : List UInt8).map b8).toArray := Blk.new _ _ _
  refine (Read_any _ _ _ 2 2 [172, 2] (BytesAt.of_row b6'.cells b6'.lt) (Nat.le_refl _) (by omega)).mono ?_
  rintro e w6 ⟨g6, A6, c6, rfl, hz6, hd6, hg6⟩
  have hg6' : Grow W5 w6 := (Grow.alloc _ _).trans hg6
  clear b6' hg6
  go_wp2_with fail
  have hn := RNumber_any w6 g6 A6 2 c6 [172, 2] false 300 hd6
  rw [stOf_false, num_300] at hn
  refine hn.mono ?_
  rintro e w7 ⟨rfl, A7, n7, c7, l7, b7, hd7, -, -, hk7⟩
  have hgA : Grow w W5 := (((hG1.trans hG2).trans hg3).trans hg4).trans hg5
  have hz6' : w.heap.size ≤ g6 := by have := hgA.size; simp at hz6; omega
  have hG7 : Grow w w7 := Below.trans (hgA.trans hg6') (hk7.below (B := w.heap.size) (fun k hk => by rw [show k = g6 from hk]; exact hz6') (hgA.trans hg6').size)
  have HG7 := Lib.hid hG7
  clear hn hd6 hz6 hd7 hk7 hG7 hgA hg6' hz6' hG1 hG2 hg3 hg4 hg5 h1
  go_wp2_with fail
  refine (Read_any _ 0 none 0 0 [] BytesAt.nil (Nat.zero_le _) (by omega)).mono ?_
  rintro e w8 ⟨g8, A8, c8, rfl, hz8, hd8, hg8⟩
  go_wp2_with fail
  refine (ROK_any w8 g8 A8 0 c8 [] false hd8).mono ?_
  rintro e w9 ⟨rfl, rfl⟩
  go_wp2
  go_ret
  exact ⟨rfl, HG7.out.trans hg8⟩
end Go.Proofs.YtcjbeaohmgfgoaaGreat
