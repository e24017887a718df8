/-
  The walk of mudlarklaw03's awake (the chapter's example).
-/
import Derived.Lib.SlBytesConst
import Derived.Laws.BytesArg
import Derived.Test.YtbbjeokecgnfpaaGreatFramePut
import Derived.Test.YtbbjeokecgnfpaaGreatFrameGet
namespace Go.Proofs.YtbbjeokecgnfpaaGreat
open Go.RowKit WireM

theorem PartsAt.empty (w : World) : PartsAt w 0 none 0 [] := ⟨rfl, fun h => absurd h (by omega)⟩
theorem PartsAt.one {w : World} {B g n c : Nat} {A : Option Addr} {tag : UInt8} {b : List UInt8} (hb : Blk w g 45 #[.int .u8 (tag.toNat : Int), .slice A n c]) (hg : g < B) (hr : BytesAt w B A n b) (hn : n ≤ c) (hc : c ≤ maxLen) (hs : n ≤ 140737488351232) : PartsAt w B (some ⟨g, 0, none⟩) 1 [⟨tag, b⟩] := by
  refine ⟨rfl, fun _ => ⟨g, 0, rfl, hg, fun j t hj => ?_⟩⟩
  cases j with
  | zero =>
    obtain rfl : (⟨tag, b⟩ : PartM) = t := by simpa using hj
    refine ⟨[.int .u8 (tag.toNat : Int), .slice A n c], rfl, ⟨A, n, c, rfl, hn, hc, hs, hr⟩, fun i u hu => ?_⟩
    rw [hb.cell, Nat.zero_mul]
    simp only [Nat.zero_add]
    simpa using hu
  | succ j => simp at hj
theorem part_le {ts : List PartM} {t : PartM} (h : t ∈ ts) : t.b.length ≤ (bodyB ts).length := by
  induction ts with
  | nil => simp at h
  | cons x r ih =>
    simp only [bodyB, partB, List.length_append, List.length_cons]
    rcases List.mem_cons.1 h with rfl | h
    · omega
    · have := ih h
      omega
theorem Get_yes (w : World) (B : Nat) (A : Option Addr) (n c : Nat) (b : List UInt8) (ts : List PartM) (hg : getB b = some ts) (hR : BytesAt w B A n b) (hB : B ≤ w.heap.size) (hnc : n ≤ c) (hc : c ≤ maxLen) (hn : n ≤ 67108864) :
    Calls Tryz.prog 15 #[.slice A n c] w fun e w' => ∃ v vs, e = .returned (.tuple #[v, .int .i64 0]) ∧ PartsOwn w.heap.size w' v ts vs ∧ Grow w w' :=
  (Get_any w B A n c b hR hB hnc hc hn).mono fun e w' h => by
    rcases h with ⟨ts2, v, vs, h1, h2⟩ | ⟨h1, _⟩
    · rw [hg] at h1
      cases h1
      exact ⟨v, vs, h2⟩
    · rw [hg] at h1
      cases h1
theorem Get_no (w : World) (B : Nat) (A : Option Addr) (n c : Nat) (b : List UInt8) (hg : getB b = none) (hR : BytesAt w B A n b) (hB : B ≤ w.heap.size) (hnc : n ≤ c) (hc : c ≤ maxLen) (hn : n ≤ 67108864) :
    Calls Tryz.prog 15 #[.slice A n c] w fun e w' => e = .returned (.tuple #[.slice none 0 0, .int .i64 9]) ∧ Grow w w' :=
  (Get_any w B A n c b hR hB hnc hc hn).mono fun e w' h => by
    rcases h with ⟨ts2, v, vs, h1, _⟩ | ⟨_, h2⟩
    · rw [hg] at h1
      cases h1
    · exact h2
theorem file_nil_len : (fileB []).length = 8 := by rw [fileB_len]; rfl
theorem file_nil_head : (fileB [])[0]? = some 8 := by rw [fileB, headB, bodyB]; rfl
theorem file_ab_len : (fileB [⟨5, [97, 98]⟩]).length = 12 := by
  rw [fileB_len]
  have : (bodyB [⟨5, [97, 98]⟩]).length = 4 := by simp [bodyB, partB, enc_small]
  omega

set_option maxRecDepth 100000 in
set_option maxHeartbeats 2000000 in
theorem awake03_any (w : World) : Calls Tryz.prog 7 #[] w fun e w' => e = .returned (.bool true) ∧ Grow w w' := by
  have bytesTy : AppTy Tryz.prog 26 5 (.int .u8 0) 1 1 := AppTy.mk' Tryz.underlying26 (by kernel_rfl) rfl (by decide)
  have kc := fun (w : World) (C : Array Value) (n c : Nat) => Lib.run_convert_bytes_const (P := Tryz.prog) w 26 5 C n c Tryz.underlying26 Tryz.underlying5
  go_enter Tryz.func7, Tryz.ntmps7
  go_wp2_with fail
  refine (Put_any w 0 none 0 0 [] (PartsAt.empty w) (Nat.zero_le _) (by omega) (by rw [file_nil_len]; omega)).mono ?_
  rintro e w1 ⟨r1, rfl, ho1, hg1⟩
  rw [file_nil_len] at ho1
  obtain ⟨A1, c1, rfl, h11, h12, h13⟩ := own_reads ho1
  have H13 := Lib.hid h13
  clear h13 ho1
  go_wp2_with fail
  obtain ⟨W, hW⟩ : ∃ W, (w1.alloc (.cells #[.int .u8 97, .int .u8 98] 5 (2, 3))).alloc (.cells #[.int .u8 5, .slice (some ⟨w1.heap.size, 0, none⟩) 2 2] 45) = W := ⟨_, rfl⟩
  have hGW : Grow w1 W := by rw [← hW]; exact (Grow.alloc _ _).trans (Grow.alloc _ _)
  have hT : PartsAt W W.heap.size (some ⟨w1.heap.size + 1, 0, none⟩) 1 [⟨5, [97, 98]⟩] := by
    rw [← hW]
    have c9 := Cells.new w1 5 ([97, 98].map b8).toArray (2, 3)
    have hb := Blk.new (w1.alloc (.cells #[.int .u8 97, .int .u8 98] 5 (2, 3))) 45 #[.int .u8 5, .slice (some ⟨w1.heap.size, 0, none⟩) 2 2]
    rw [World.size_alloc] at hb
    exact PartsAt.one (tag := 5) (b := [97, 98]) hb (by simp) (BytesAt.of_row (c9.alloc (by simp) _) (by simp; omega)) (by omega) (by simp only [maxLen]; omega) (by omega)
  rw [hW]
  clear hW
  refine (Put_any W W.heap.size _ 1 1 _ hT (Nat.le_refl _) (by omega) (by rw [file_ab_len]; omega)).mono ?_
  rintro e w2 ⟨r2, rfl, ho2, hg2⟩
  rw [file_ab_len] at ho2
  obtain ⟨A2, c2, rfl, h21, h22, h23⟩ := own_reads ho2
  have H23 : Hid (BytesAt w2 w2.heap.size A2 12 (fileB [⟨5, [97, 98]⟩])) := h23
  have HG2 := Lib.hid ((hg1.trans hGW).trans hg2)
  have HG12 := Lib.hid (hGW.trans hg2)
  clear h23 ho2 hT hg1 hGW hg2
  go_wp2_with fail
  refine (Get_yes w2 w2.heap.size A2 12 c2 _ _ (get_file _ (by rw [file_ab_len]; omega)) H23.out (Nat.le_refl _) h21 h22 (by omega)).mono ?_
  rintro e w3 ⟨v, vs, rfl, hP, hg3⟩
  obtain ⟨A3, c3, rfl, h31, h32, h33⟩ := hP.reads (fun t ht => by have := part_le ht; have h2 := file_ab_len; rw [fileB_len] at h2; omega)
  have H33 := Lib.hid h33
  have Hg3 := Lib.hid hg3
  have hcut := fun W => run_cut_head bytesTy A2 12 c2 11 .i64 11 rfl (by omega) W
  clear h33 hP hg3
  go_wp2_with fail
  have hcutno := Get_no w3 w2.heap.size A2 11 c2 ((fileB [⟨5, [97, 98]⟩]).take 11) (get_cut _ 11 (by rw [file_ab_len]; omega) (by rw [file_ab_len]; omega)) ((H23.out.below Hg3.out).head 11 (by omega)) Hg3.out.size (by omega) h22 (by omega)
  refine Calls.mono (show Calls _ _ #[.slice A2 (max (11 : Int) 0).toNat c2] _ _ from hcutno) ?_
  rintro e w4 ⟨rfl, hg4⟩
  clear hcutno
  obtain ⟨b1, o1, rfl, hb1, hc1⟩ := (show BytesAt w1 w1.heap.size A1 8 (fileB []) from H13.out).at_ (by omega)
  have hx1 := hc1 0 8 file_nil_head
  rw [Nat.add_zero] at hx1
  have HG14 := Lib.hid ((HG12.out.trans Hg3.out).trans hg4)
  have hy1 : w4.cell? ⟨b1, o1, none⟩ = some (.int .u8 8) := (HG14.out.cell (p := ⟨b1, o1, none⟩) hb1).trans hx1
  obtain ⟨b3, o3, A5, n5, c5, rfl, hb3, hp0, hp1, h51, h52, h53, h54⟩ := (H33.out.below hg4).at_ (k := 0) rfl
  rw [Nat.zero_mul, Nat.add_zero] at hp0 hp1
  have hn5 : n5 = 2 := h54.len.symm
  subst hn5
  obtain ⟨b6, o6, rfl, hb6, hc6⟩ := h54.at_ (by omega)
  have hs := run_convert_bytes_arg (P := Tryz.prog) w4 26 5 Tryz.underlying26 Tryz.underlying5 b6 o6 2 c5 [97, 98] rfl (fun i hi => by
    match i, hi with
    | 0, _ => exact hc6 0 97 rfl
    | 1, _ => exact hc6 1 98 rfl) 9 Tryz.underlying9
  rw [show strOfNums [97, 98] = ⟨#[97, 98]⟩ from rfl] at hs
  have HG4 := Lib.hid ((HG2.out.trans Hg3.out).trans hg4)
  clear hx1 hc1 hc6 hg4 h54
  go_wp2
  go_ret
  exact ⟨rfl, HG4.out⟩
end Go.Proofs.YtbbjeokecgnfpaaGreat
