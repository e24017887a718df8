/-
  The walks of mudlarkkit's LentPart, markPart, KeptPart.
-/
import Derived.Laws.Rows
import Derived.Test.YtbbjeokecgnfpaaGreatBaseA
import Derived.Test.YtbbjeokecgnfpaaGreatSameParts
namespace Go.Proofs.YtbbjeokecgnfpaaGreat
open Go.RowKit

set_option maxRecDepth 100000 in
set_option maxHeartbeats 1000000 in
theorem LentPart_any (w : World) (B : Nat) (tag : UInt8) (A : Option Addr) (n c : Nat) (b : List UInt8) (hR : BytesAt w B A n b) (hB : B ≤ w.heap.size) (hn : n ≤ 1000000) :
    Calls Tryz.prog 23 #[.agg #[.int .u8 (tag.toNat : Int), .slice A n c]] w fun e w' => ∃ g, e = .returned (.agg #[.int .u8 (tag.toNat : Int), .slice (some ⟨g, 0, none⟩) n (n + 12)]) ∧ w.heap.size ≤ g ∧ g < w'.heap.size ∧ LentAt w' g b ∧ Grow w w' := by
  have hG0 : Grow w ((w.alloc (.cells #[.int .u8 (tag.toNat : Int), .slice A n c] 45)).alloc (.cells #[.int .u8 0, .slice none 0 0] 45)) := (Grow.alloc _ _).trans (Grow.alloc _ _)
  have hR0 := (hR.below (Below.mono hG0 hB))
  have hz0 : ((w.alloc (.cells #[.int .u8 (tag.toNat : Int), .slice A n c] 45)).alloc (.cells #[.int .u8 0, .slice none 0 0] 45)).heap.size = w.heap.size + 1 + 1 := by simp
  have hP0 := (Blk.new w 45 #[.int .u8 (tag.toNat : Int), .slice A n c]).alloc (.cells #[.int .u8 0, .slice none 0 0] 45)
  have hQ0 : Blk ((w.alloc (.cells #[.int .u8 (tag.toNat : Int), .slice A n c] 45)).alloc (.cells #[.int .u8 0, .slice none 0 0] 45)) (w.heap.size + 1) 45 #[.int .u8 0, .slice none 0 0] := by
    have h := Blk.new (w.alloc (.cells #[.int .u8 (tag.toNat : Int), .slice A n c] 45)) 45 #[.int .u8 0, .slice none 0 0]
    simpa using h
  have Hz0 := Lib.hid hz0
  have hlent := LentBytes_any _ B A n c b hR0 (by omega) (by omega)
  rw [hz0] at hlent
  have Hlent := Lib.hid hlent
  clear hz0 hlent
  go_enter Tryz.func23, Tryz.ntmps23
  go_wp2_with fail
  refine Hlent.out.mono ?_
  rintro e w1 ⟨rfl, hL1, hb1⟩
  have hG1 : Grow w w1 := Below.trans hG0 (Below.mono hb1 (by omega))
  have hP1 := hP0.below hb1 (by omega)
  have hQ1 := hQ0.below hb1 (by omega)
  have hlt := hL1.lt
  have hcP0 := hP1.cell 0
  have hcP1 := hP1.cell 1
  have hfP1 := hP1.frozen 1
  have hcQ0 := hQ1.cell 0
  have hcQ1 := hQ1.cell 1
  have hfQ0 := hQ1.frozen 0
  have hfQ1 := hQ1.frozen 1
  have HL1 := Lib.hid hL1
  clear hL1 hb1 hR0
  go_wp2_with fail
  have hQ2 := ((hQ1.far (p := ⟨w.heap.size, 1, none⟩) (by simp) (.slice (some ⟨w.heap.size + 1 + 1, 0, none⟩) n (n + 12))).set 0 (.int .u8 (tag.toNat : Int))).set 1 (.slice (some ⟨w.heap.size + 1 + 1, 0, none⟩) n (n + 12))
  refine bodyPost_ret (results_cell_row rfl _ _ (w.heap.size + 1) 45 _ (0, 0) _ rfl hQ2 Tryz.underlying45 rfl (by kernel_rfl)) rfl ⟨w.heap.size + 1 + 1, rfl, by omega, by simp only [size_setCell]; omega, ?_, ?_⟩
  · exact ((Blk.far HL1.out (p := ⟨w.heap.size, 1, none⟩) (by show w.heap.size + 1 + 1 ≠ w.heap.size; omega) _).far (p := ⟨w.heap.size + 1, 0, none⟩) (by show w.heap.size + 1 + 1 ≠ w.heap.size + 1; omega) _).far (p := ⟨w.heap.size + 1, 1, none⟩) (by show w.heap.size + 1 + 1 ≠ w.heap.size + 1; omega) _
  · exact Below.setCell (Below.setCell (Below.setCell hG1 (Nat.le_refl _) _) (Nat.le_succ _) _) (Nat.le_succ _) _

set_option maxRecDepth 100000 in
theorem markPart_any (k i : Int) (w : World) (hk : 0 ≤ k) (hk2 : k ≤ 1000000) (hi : 0 ≤ i) (hi2 : i ≤ 1000000000) :
    Calls Tryz.prog 24 #[.int .i64 k, .int .i64 i] w fun e w' => ∃ m, e = .returned (.agg #[.int .u8 0, .slice (some ⟨m, 0, none⟩) 1 1]) ∧ w.heap.size ≤ m ∧ Blk w' m 5 #[.int .u8 ((markB k i).toNat : Int)] ∧ Grow w w' := by
  go_enter Tryz.func24, Tryz.ntmps24
  go_wp2_with fail
  refine (markByte_any k i _ hk (by omega) hi (by omega)).mono ?_
  rintro e w1 ⟨rfl, rfl⟩
  go_wp2_with fail
  have hPf : Blk ((w.alloc (.cells #[.int .u8 0, .slice (some ⟨w.heap.size + 1, 0, none⟩) 1 1] 45)).alloc (.cells #[.int .u8 ((markB k i).toNat : Int)] 5)) w.heap.size 45 #[.int .u8 0, .slice (some ⟨w.heap.size + 1, 0, none⟩) 1 1] := (Blk.new _ _ _).alloc _
  have hmf : Blk ((w.alloc (.cells #[.int .u8 0, .slice (some ⟨w.heap.size + 1, 0, none⟩) 1 1] 45)).alloc (.cells #[.int .u8 ((markB k i).toNat : Int)] 5)) (w.heap.size + 1) 5 #[.int .u8 ((markB k i).toNat : Int)] := by
    have h := Blk.new (w.alloc (.cells #[.int .u8 0, .slice (some ⟨w.heap.size + 1, 0, none⟩) 1 1] 45)) 5 #[.int .u8 ((markB k i).toNat : Int)]
    simpa using h
  exact bodyPost_ret (results_cell_row rfl _ _ w.heap.size 45 _ (0, 0) _ rfl hPf Tryz.underlying45 rfl (by kernel_rfl)) rfl ⟨w.heap.size + 1, rfl, Nat.le_succ _, hmf, (Grow.alloc _ _).trans (Grow.alloc _ _)⟩

set_option maxRecDepth 100000 in
set_option maxHeartbeats 1000000 in
theorem KeptPart_yes (w : World) (B g : Nat) (tag : UInt8) (A : Option Addr) (n c : Nat) (b : List UInt8) (hL : LentAt w g b) (hg : g < B) (hR : BytesAt w B A n b) (hB : B ≤ w.heap.size) (hn : n ≤ 1000000) :
    Calls Tryz.prog 33 #[.agg #[.int .u8 (tag.toNat : Int), .slice (some ⟨g, 0, none⟩) n (n + 12)], .agg #[.int .u8 (tag.toNat : Int), .slice A n c]] w fun e w' => e = .returned (.bool true) ∧ Grow w w' := by
  have hlen := hR.len
  have hG0 : Grow w ((w.alloc (.cells #[.int .u8 (tag.toNat : Int), .slice (some ⟨g, 0, none⟩) n (n + 12)] 45)).alloc (.cells #[.int .u8 (tag.toNat : Int), .slice A n c] 45)) := (Grow.alloc _ _).trans (Grow.alloc _ _)
  have hb0 := Below.mono hG0 hB
  have hL0 := hL.below hb0 hg
  have hR0 := hR.below hb0
  have hLb : BytesAt ((w.alloc (.cells #[.int .u8 (tag.toNat : Int), .slice (some ⟨g, 0, none⟩) n (n + 12)] 45)).alloc (.cells #[.int .u8 (tag.toNat : Int), .slice A n c] 45)) B (some ⟨g, 0, none⟩) n b := by
    have h := LentAt.bytes hL0 hg
    rw [hlen] at h
    exact h
  have hBz : B ≤ ((w.alloc (.cells #[.int .u8 (tag.toNat : Int), .slice (some ⟨g, 0, none⟩) n (n + 12)] 45)).alloc (.cells #[.int .u8 (tag.toNat : Int), .slice A n c] 45)).heap.size := Nat.le_trans hB hG0.size
  have hsame := SamePart_any _ B ⟨tag, b⟩ ⟨tag, b⟩ (some ⟨g, 0, none⟩) n (n + 12) A n c hLb hR0 hBz (by simp only [maxLen]; omega) (by simp only [maxLen]; omega) true (Lib.hid (by rw [samePartB, sameL_self]; simp))
  have Hsame := Lib.hid hsame
  have Hlen := Lib.hid hlen
  have HL0 := Lib.hid hL0
  have HR0 := Lib.hid hR0
  have HBz := Lib.hid hBz
  clear hsame hlen hL0 hR0 hLb hb0 hBz
  go_enter Tryz.func33, Tryz.ntmps33
  go_wp2_with fail
  refine Hsame.out.mono ?_
  rintro e w1 ⟨rfl, hg1⟩
  have hL1 := HL0.out.below (Below.mono hg1 HBz.out) hg
  have hR1 := HR0.out.below (Below.mono hg1 HBz.out)
  have hP1 := ((Blk.new w 45 #[.int .u8 (tag.toNat : Int), .slice (some ⟨g, 0, none⟩) n (n + 12)]).alloc (.cells #[.int .u8 (tag.toNat : Int), .slice A n c] 45)).below hg1 (by simp; omega)
  have hQ1 : Blk w1 (w.heap.size + 1) 45 #[.int .u8 (tag.toNat : Int), .slice A n c] := by
    have h := Blk.new (w.alloc (.cells #[.int .u8 (tag.toNat : Int), .slice (some ⟨g, 0, none⟩) n (n + 12)] 45)) 45 #[.int .u8 (tag.toNat : Int), .slice A n c]
    have h2 := h.below hg1 h.lt
    simpa using h2
  have hcP := hP1.cell 1
  have hcQ := hQ1.cell 1
  have HG := Lib.hid (hG0.trans hg1)
  go_wp2_with fail
  refine (KeptBytes_yes w1 B g A n c b hL1 hR1 (by omega)).mono ?_
  rintro e w2 ⟨rfl, q, rfl⟩
  go_wp2
  go_ret
  exact ⟨rfl, HG.out.trans (Grow.drewN _ _)⟩
end Go.Proofs.YtbbjeokecgnfpaaGreat
