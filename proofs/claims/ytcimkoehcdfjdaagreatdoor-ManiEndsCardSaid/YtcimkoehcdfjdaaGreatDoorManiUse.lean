/-
  Put, Get and Name as their callers use them; the walk of mudlarklaw25's awake (the chapter's example).
-/
import Derived.Test.YtcimkoehcdfjdaaGreatDoorManiGot
import Derived.Test.YtcimkoehcdfjdaaGreatDoorManiPut
import Derived.Test.YtcimkoehcdfjdaaGreatDoorFrameAwake
import Derived.Test.YtcimkoehcdfjdaaGreatDoorManiNm
namespace Go.Proofs.YtcimkoehcdfjdaaGreatDoor
open Go.RowKit WireM
set_option linter.unusedVariables false

theorem getF_right {b : List UInt8} {m : ManiM} (h : getF b = some m) : maniRight m = true := by
 unfold getF at h
 split at h
 ·unfold getM at h
  simp only at h
  split at h
  ·rename_i q
   injection h with h
   rw [← h]
   exact q.2
  ·cases h
 ·cases h
theorem wide_of_right {m : ManiM} (h : maniRight m = true) : ∀ t ∈ m.shards, t.dead.length ≤ 17592186044416 ∧ Wide64 t.num ∧ Wide64 t.size ∧ ∀ x ∈ t.dead, Wide64 x := fun t ht => by
 obtain ⟨h1, h2, h3, h4, h5⟩ := mani_right h
 obtain ⟨q1, q2, -, -, q5, q6⟩ := shard_dead (List.all_eq_true.1 h4 t ht)
 obtain ⟨p1, p2⟩ := h5 t ht
 exact ⟨by omega, ⟨by omega, by omega⟩, ⟨by omega, by omega⟩, fun x hx => by have := q5 x hx; exact ⟨by omega, by omega⟩⟩
theorem getF_file {m : ManiM} (h : maniRight m = true) : getF (mfileB m) = some m := by
 have h1 := mfile_len h
 rw [getF, mfileB, get_file _ (by unfold mfileB at h1; omega)]
 exact getM_put h
theorem getF_nil : getF [] = none := by
 have : getB [] = none := by
  cases h : getB [] with
  | none => rfl
  | some ts =>
   have h2 := congrArg List.length (get_one h)
   rw [fileB_len] at h2
   simp at h2
   omega
 rw [getF, this]
theorem MGet_yes (w : World) (B : Nat) (A : Option Addr) (n c : Nat) (b : List UInt8) (m : ManiM) (hg : getF b = some m) (hR : BytesAt w B A n b) (hB : B ≤ w.heap.size) (hnc : n ≤ c) (hc : c ≤ maxLen) (hn : n ≤ 67108864) :
  Calls Tryz.prog 18 #[.slice A n c] w fun e w' => ∃ A2 c2, e = .returned (.tuple #[.agg #[.int .i64 m.gen, .slice A2 m.shards.length c2], .int .i64 0]) ∧ ManiAt w' w'.heap.size (.agg #[.int .i64 m.gen, .slice A2 m.shards.length c2]) m ∧ Grow w w' :=
 (MGet_any w B A n c b hR hB hnc hc hn).mono fun e w' ⟨hG, h⟩ => by
  rcases h with ⟨m2, v, vs, h1, rfl, hP⟩ | ⟨h1, _⟩
  ·rw [hg] at h1
   injection h1 with h1
   subst h1
   have hr := getF_right hg
   obtain ⟨A2, c2, rfl, p1, p2, p3⟩ := hP.reads (wide_of_right hr)
   obtain ⟨q1, q2, q3, -⟩ := mani_right hr
   exact ⟨A2, c2, rfl, ⟨⟨A2, _, c2, rfl, p1, p2, by omega, p3⟩, by unfold Wide64; omega⟩, hG⟩
  ·rw [hg] at h1
   cases h1
theorem MGet_no (w : World) (B : Nat) (A : Option Addr) (n c : Nat) (b : List UInt8) (hg : getF b = none) (hR : BytesAt w B A n b) (hB : B ≤ w.heap.size) (hnc : n ≤ c) (hc : c ≤ maxLen) (hn : n ≤ 67108864) :
  Calls Tryz.prog 18 #[.slice A n c] w fun e w' => e = .returned (.tuple #[.agg #[.int .i64 0, .slice none 0 0], .int .i64 9]) ∧ Grow w w' :=
 (MGet_any w B A n c b hR hB hnc hc hn).mono fun e w' ⟨hG, h⟩ => by
  rcases h with ⟨m2, v, vs, h1, _⟩ | ⟨_, h2⟩
  ·rw [hg] at h1
   cases h1
  ·exact ⟨h2, hG⟩
theorem MPut_yes (w : World) (v : Value) (m : ManiM) (hM : ManiAt w w.heap.size v m) (hr : maniRight m = true) : Calls Tryz.prog 9 #[v] w fun e w' => ∃ A c, e = .returned (.tuple #[.slice A (mfileB m).length c, .int .i64 0]) ∧ (mfileB m).length ≤ c ∧ c ≤ maxLen ∧ BytesAt w' w'.heap.size A (mfileB m).length (mfileB m) ∧ Grow w w' :=
 (MPut_any w v m hM).mono fun e w' ⟨hG, h⟩ => by
  rcases h with ⟨-, r, rfl, ho⟩ | ⟨h, -⟩
  ·obtain ⟨A, c, rfl, h1, h2, h3⟩ := own_reads ho
   exact ⟨A, c, rfl, h1, h2, h3, hG⟩
  ·rw [hr] at h
   cases h
theorem ShardsAt.one {w : World} {B g n c : Nat} {A : Option Addr} {s : ShardM} (hb : Blk w g 52 #[.int .i64 s.num, .int .i64 s.size, .int .u32 (s.sum.toNat : Int), .slice A n c]) (hg : g < B) (hr : IntsAt w B A n s.dead) (hn : n ≤ c) (hc : c ≤ maxLen) (hs : n ≤ 17592186044416)
  (h1 : Wide64 s.num) (h2 : Wide64 s.size) (h3 : ∀ x ∈ s.dead, Wide64 x) : ShardsAt w B (some ⟨g, 0, none⟩) 1 [s] := by
 refine ⟨rfl, fun _ => ⟨g, 0, rfl, hg, fun j t hj => ?_⟩⟩
 cases j with
 | zero =>
  obtain rfl : s = t := by simpa using hj
  refine ⟨[.int .i64 s.num, .int .i64 s.size, .int .u32 (s.sum.toNat : Int), .slice A n c], rfl, ⟨A, n, c, rfl, hn, hc, hs, hr, h1, h2, h3⟩, fun i u hu => ?_⟩
  rw [hb.cell, Nat.zero_mul]
  simp only [Nat.zero_add]
  simpa using hu
 | succ j => simp at hj
theorem ManiAt.zero (w : World) : ManiAt w w.heap.size (.agg #[.int .i64 0, .slice none 0 0]) ⟨0, []⟩ := ⟨⟨none, 0, 0, rfl, Nat.le_refl _, Nat.zero_le _, by omega, ⟨rfl, fun h => absurd h (by omega)⟩⟩, by unfold Wide64; simp⟩

theorem nameB_12 : nameB 12 = [115, 46, 49, 50] := by
 rw [nameB_yes (by omega) (by omega), show Int.toNat 12 = 12 from rfl, dec_big (by omega), dec_small (by omega)]
 rfl
theorem numB_12 : numB [115, 46, 49, 50] = (12, true) := by rw [← refNum_numB]; rfl
theorem numB_012 : numB [115, 46, 48, 49, 50] = (0, false) := by rw [← refNum_numB]; rfl
def m25 : ManiM := ⟨3, [⟨2, 10, 7, [0, 3]⟩]⟩
theorem m25_right : maniRight m25 = true := by decide

set_option maxRecDepth 100000 in
set_option maxHeartbeats 4000000 in
theorem awake25_any (w : World) (hL : LaidOk w) : Calls Tryz.prog 7 #[] w fun e w' => e = .returned (.bool true) ∧ Grow w w' := by
 go_enter Tryz.func7, Tryz.ntmps7
 go_wp2_with fail
 obtain ⟨W, hW⟩ : ∃ W, (((w.alloc (.cells #[.int .i64 0, .int .i64 3] 3)).alloc (.cells #[.int .i64 2, .int .i64 10, .int .u32 7, .slice (some ⟨w.heap.size, 0, none⟩) 2 2] 52)).alloc (.cells #[.int .i64 3, .slice (some ⟨w.heap.size + 1, 0, none⟩) 1 1] 24)) = W := ⟨_, rfl⟩
 have hG1 : Grow w W := by rw [← hW]; exact ((Grow.alloc _ _).trans (Grow.alloc _ _)).trans (Grow.alloc _ _)
 have hB1 : Blk W (w.heap.size + 1 + 1) 24 #[.int .i64 3, .slice (some ⟨w.heap.size + 1, 0, none⟩) 1 1] := by
  rw [← hW]
  have h := Blk.new ((w.alloc (.cells #[.int .i64 0, .int .i64 3] 3)).alloc (.cells #[.int .i64 2, .int .i64 10, .int .u32 7, .slice (some ⟨w.heap.size, 0, none⟩) 2 2] 52)) 24 #[.int .i64 3, .slice (some ⟨w.heap.size + 1, 0, none⟩) 1 1]
  simpa using h
 have hM1 : ManiAt W W.heap.size (.agg #[.int .i64 3, .slice (some ⟨w.heap.size + 1, 0, none⟩) 1 1]) m25 := by
  refine ⟨⟨some ⟨w.heap.size + 1, 0, none⟩, 1, 1, rfl, by omega, by simp only [maxLen]; omega, by omega, ?_⟩, by unfold Wide64; decide⟩
  have h1 := IntsAt.of_row (B := W.heap.size) (w := W) (g := w.heap.size) (l := [0, 3]) (by
   rw [← hW]
   exact ((Cells.new w 3 ([0, 3].map i64v).toArray (0, 0)).alloc (by simp) _).alloc (by simp; omega) _) (by rw [← hW]; simp; omega)
  have h2 : Blk W (w.heap.size + 1) 52 #[.int .i64 2, .int .i64 10, .int .u32 7, .slice (some ⟨w.heap.size, 0, none⟩) 2 2] := by
   rw [← hW]
   have h := Blk.new (w.alloc (.cells #[.int .i64 0, .int .i64 3] 3)) 52 #[.int .i64 2, .int .i64 10, .int .u32 7, .slice (some ⟨w.heap.size, 0, none⟩) 2 2]
   rw [World.size_alloc] at h
   exact h.alloc _
  exact ShardsAt.one (s := ⟨2, 10, 7, [0, 3]⟩) h2 (by rw [← hW]; simp) h1 (by omega) (by simp only [maxLen]; omega) (by omega) (by unfold Wide64; decide) (by unfold Wide64; decide) (fun x hx => by
   have : x = 0 ∨ x = 3 := by simpa using hx
   unfold Wide64; omega)
 rw [hW]
 clear hW
 obtain ⟨N, hN⟩ : ∃ N, N = (mfileB m25).length := ⟨_, rfl⟩
 have hNl : N ≤ 67108864 := by have := mfile_len m25_right; omega
 have hP := MPut_yes W _ m25 hM1 m25_right
 rw [← hN] at hP
 refine hP.mono ?_
 rintro e w2 ⟨A, c, rfl, h21, h22, h23, hG2⟩
 clear hP
 have H23 := Lib.hid h23
 have HM1 := Lib.hid (hM1.grow (Nat.le_refl _) hG2)
 have HB2 := Lib.hid (Grow.blkOf hG2 hB1)
 have HG2 := Lib.hid (hG1.trans hG2)
 clear hM1 hG1 hG2 hB1 h23 hN
 go_wp2_with fail
 refine (MGet_yes w2 w2.heap.size A N c (mfileB m25) m25 (getF_file m25_right) H23.out (Nat.le_refl _) h21 h22 hNl).mono ?_
 rintro e w3 ⟨A3, c3, rfl, hM3, hG3⟩
 have HM2 := Lib.hid (HM1.out.grow (Nat.le_refl _) hG3)
 have HM3 := Lib.hid hM3
 have HB3 := Lib.hid (Grow.blkOf hG3 HB2.out)
 have HG3 := Lib.hid (HG2.out.trans hG3)
 clear HM1 HB2 HG2 hM3 hG3
 go_wp2_with fail
 obtain ⟨W4, hW4⟩ : ∃ W4, w3.alloc (.cells #[.int .i64 m25.gen, .slice A3 m25.shards.length c3] 24) = W4 := ⟨_, rfl⟩
 have hG4 : Grow w3 W4 := by rw [← hW4]; exact Grow.alloc _ _
 have HN4 := Lib.hid (show Blk W4 w3.heap.size 24 #[.int .i64 m25.gen, .slice A3 m25.shards.length c3] by rw [← hW4]; exact Blk.new _ _ _)
 have HA4 := Lib.hid (HM2.out.grow (Nat.le_refl _) hG4)
 have HC4 := Lib.hid (HM3.out.grow (Nat.le_refl _) hG4)
 have HB4 := Lib.hid (Grow.blkOf hG4 HB3.out)
 have HG4 := Lib.hid (HG3.out.trans hG4)
 rw [hW4]
 clear hW4 hG4 HM2 HM3 HB3 HG3
 refine (MGet_no W4 0 none 0 0 [] getF_nil BytesAt.nil (Nat.zero_le _) (Nat.le_refl _) (Nat.zero_le _) (Nat.zero_le _)).mono ?_
 rintro e w5 ⟨rfl, hG5⟩
 have HN5 := Lib.hid (Grow.blkOf hG5 HN4.out)
 have HA5 := Lib.hid (HA4.out.grow (Nat.le_refl _) hG5)
 have HC5 := Lib.hid (HC4.out.grow (Nat.le_refl _) hG5)
 have HB5 := Lib.hid (Grow.blkOf hG5 HB4.out)
 have HG5 := Lib.hid (HG4.out.trans hG5)
 clear HN4 HA4 HC4 HB4 HG4 hG5
 go_wp2_with fail
 obtain ⟨W6, hW6⟩ : ∃ W6, w5.alloc (.cells #[.int .i64 0, .slice none 0 0] 24) = W6 := ⟨_, rfl⟩
 have hG6 : Grow w5 W6 := by rw [← hW6]; exact Grow.alloc _ _
 rw [hW6]
 clear hW6
 refine (Num_any W6 ⟨#[115, 46, 48, 49, 50]⟩ (by decide) (hL.grow (HG5.out.trans hG6)) 0 false numB_012.symm).mono ?_
 rintro e w7 ⟨rfl, hG7⟩
 go_wp2_with fail
 refine (Num_any w7 ⟨#[115, 46, 49, 50]⟩ (by decide) (hL.grow ((HG5.out.trans hG6).trans hG7)) 12 true numB_12.symm).mono ?_
 rintro e w8 ⟨rfl, hG8⟩
 have hG58 := (hG6.trans hG7).trans hG8
 have hN8 := Grow.blkOf hG58 HN5.out
 have HA8 := Lib.hid (HA5.out.grow (Nat.le_refl _) hG58)
 have HC8 := Lib.hid (HC5.out.grow (Nat.le_refl _) hG58)
 have hB8 := Grow.blkOf hG58 HB5.out
 have HG8 := Lib.hid (HG5.out.trans hG58)
 have hn0 := hN8.cell 0
 have hn1 := hN8.cell 1
 have hb0 := hB8.cell 0
 have hb1 := hB8.cell 1
 clear HN5 HA5 HC5 HB5 HG5 hG6 hG7 hG8 hG58 hN8 hB8
 go_wp2_with fail
 refine (SameManifest_any w8 _ _ m25 m25 HA8.out HC8.out true (sameManiB_iff.2 rfl).symm).mono ?_
 rintro e w9 ⟨rfl, hG9⟩
 clear hn0 hn1 hb0 hb1 HA8 HC8
 go_wp2_with fail
 have hna := Name_any w9 12 (by omega) (by omega) (hL.grow (HG8.out.trans hG9))
 rw [nameB_12] at hna
 refine hna.mono ?_
 rintro e w10 ⟨rfl, hG10⟩
 clear hna
 go_wp2_with (first | (go_at_call 29; refine (Now_any _).mono ?_; rintro e w' ⟨rfl, rfl⟩) | (go_at_call 30; refine (Next_any _).mono ?_; rintro e w' ⟨rfl, rfl⟩))
 go_ret
 exact ⟨rfl, (HG8.out.trans hG9).trans hG10⟩
end Go.Proofs.YtcimkoehcdfjdaaGreatDoor
