/-
  The walk of mudlarklaw03's fit: bytes with their sum behind them.
-/
import Derived.Test.YtbbjeokecgnfpaaGreatFrameAwake
import Derived.Test.YtbbjeokecgnfpaaGreatFrameMath
namespace Go.Proofs.YtbbjeokecgnfpaaGreat
open Go.RowKit WireM

set_option maxRecDepth 100000 in
set_option maxHeartbeats 2000000 in
theorem fit03_any (w : World) (B : Nat) (A : Option Addr) (n c : Nat) (b : List UInt8) (hR : BytesAt w B A n b) (hB : B ≤ w.heap.size) (hnc : n ≤ c) (hc : c ≤ maxLen) (hn : n ≤ 1000000) :
    Calls Tryz.prog 45 #[.slice A n c] w fun e w' => ∃ (r : Value) (k : Nat) (L : List UInt8), e = .returned r ∧ k ≤ n + 4 ∧ w'.ownsRow w.heap.size 5 1 r k (L.map b8) ∧ Grow w w' := by
  have bytesTy : AppTy Tryz.prog 26 5 (.int .u8 0) 1 1 := AppTy.mk' Tryz.underlying26 (by kernel_rfl) rfl (by decide)
  have HR := Lib.hid hR
  have hlen := Lib.hid hR.len
  have hG1 : Grow w (w.alloc (.cells #[.slice none 0 0, .bool false] 49)) := Grow.alloc _ _
  have hW0 : Wr 49 (w.alloc (.cells #[.slice none 0 0, .bool false] 49)) w.heap.size w.heap.size (.slice none 0 0) [] false := ⟨Blk.new _ _ _, World.ownsRow_nil _ _ _ _, Nat.le_refl _⟩
  have hsum := Sum_new (w.alloc (.cells #[.slice none 0 0, .bool false] 49)) B A n c b (hR.below (Below.mono hG1 hB)) (by simp; omega) hnc hc
  rw [World.size_alloc] at hsum
  have Hsum := Lib.hid hsum
  clear hsum
  clear hR
  go_enter Tryz.func45, Tryz.ntmps45
  go_wp2_with fail
  refine Hsum.out.mono ?_
  rintro e w2 ⟨rfl, hb2⟩
  have hb2' : Grow (w.alloc (.cells #[.slice none 0 0, .bool false] 49)) w2 := by
    unfold Grow
    rw [World.size_alloc]
    exact hb2
  have hW2 := hW0.grow hb2'
  have hg2 : Grow w w2 := hG1.trans hb2'
  go_wp2_with fail
  refine (WFixed_any w2 w.heap.size w.heap.size (.slice none 0 0) [] false (CrcM.sum b) hW2 (by simp)).mono ?_
  rintro e w3 ⟨rfl, v3, hW3, hF3⟩
  have hg3 : Grow w w3 := Below.trans hg2 (hF3.keep.below (fun q hq => by rcases hq with h | h; omega; simp [Value.ownBlock] at h) hg2.size)
  have hg4 : Grow w3 (w3.alloc (.cells #[] 5)) := Grow.alloc _ _
  have hown0 : (w3.alloc (.cells #[] 5)).ownsRow w.heap.size 5 1 (.slice (some ⟨w3.heap.size, 0, none⟩) 0 0) 0 [] :=
    ⟨rfl, Or.inr ⟨w3.heap.size, 0, #[], rfl, hg3.size, heap_alloc_new _ _, Nat.le_refl _, Nat.zero_le _, rfl, rfl⟩⟩
  have hR4 := HR.out.below (Below.mono (hg3.trans hg4) hB)
  have hW4 := hW3.grow hg4
  have hz4 : w.heap.size ≤ (w3.alloc (.cells #[] 5)).heap.size := (hg3.trans hg4).size
  have hv3 : ∀ k, v3.ownBlock = some k → k < w3.heap.size := fun k hk => (hW3.own.lt k hk).2
  have hgl := hW3.cell.lt
  have HW4 := Lib.hid hW4
  have HG3 := Lib.hid hg3
  clear hW3 hF3 hW2 hW0 hg3 hg2 hb2 hb2' hG1 hW4
  go_wp2_with (at_builtin; refine wpList_append_reads _ rfl (.tmp 11) (.tmp 12) rfl bytesTy rfl hown0 rfl hR4 (b8_one _) (by simp only [maxLen]; omega) (by omega) hz4 ?_; intro v4 w4 hown4 hgr4 hat4)
  have hk4 : Keep (fun k => k = w3.heap.size) (w3.alloc (.cells #[] 5)) w4 := (Keep.grown hgr4).mono fun j hj => Or.inl (by injection hj with hj; exact hj.symm)
  have hW5 : Wr 49 w4 w.heap.size w.heap.size v3 ([] ++ fourB (CrcM.sum b)) false := ⟨hk4.blk HW4.out.cell (by omega), hk4.own HW4.out.own fun k hk h => by have := hv3 k hk; omega, Nat.le_refl _⟩
  have hg5 : Grow w w4 := Below.trans (HG3.out.trans hg4) (hk4.below (fun j hj => by have := HG3.out.size; omega) hz4)
  simp only [Nat.zero_add, List.nil_append] at hown4
  have Hown4 := Lib.hid hown4
  have Hg5 := Lib.hid hg5
  clear hown4 hgr4 hat4 hk4 hg5 hown0 hR4 hg4
  obtain ⟨A4, c4, rfl, -, -, -⟩ := own_reads Hown4.out
  go_wp2_with fail
  refine (WBytes_any w4 w.heap.size w.heap.size v3 ([] ++ fourB (CrcM.sum b)) false hW5 (by simp [fourB])).mono ?_
  rintro e w5 ⟨r5, rfl, hown5, hg6⟩
  obtain ⟨A5, c5, rfl, h51, h52, h53⟩ := own_reads hown5
  have e4 : (told (stOf ([] ++ fourB (CrcM.sum b)) false)).length = 4 := rfl
  have hown6 := own_below Hown4.out hg6
  have hz6 : w.heap.size ≤ w5.heap.size := (Hg5.out.trans hg6).size
  rw [e4] at h53 h51
  have Hg6 := Lib.hid hg6
  have Hown6 := Lib.hid hown6
  have H53 := Lib.hid h53
  clear hown5 hg6 hown6 h53 hW5 HW4
  rw [e4]
  go_wp2_with (at_builtin; refine wpList_append_reads _ rfl (.tmp 13) (.tmp 15) rfl bytesTy rfl Hown6.out rfl H53.out (b8_one _) (by simp only [maxLen]; omega) (by omega) hz6 ?_; intro v6 w6 hown7 hgr7 hat7)
  have hk7 := Keep.grown hgr7
  have hg7 : Grow w w6 := Below.trans (Hg5.out.trans Hg6.out) (hk7.below (fun j hj => (Hown6.out.lt j hj).1) hz6)
  rw [← List.map_append] at hown7
  go_ret
  exact ⟨_, _, _, rfl, Nat.le_refl _, hown7, hg7⟩
end Go.Proofs.YtbbjeokecgnfpaaGreat
