/-
  The walk of wire's Writer.Text, of one text.
-/
import Derived.Test.YtcjbeaohmgfgoaaGreatWNumber
import Derived.Test.YtcjbeaohmgfgoaaGreatData
namespace Go.Proofs.YtcjbeaohmgfgoaaGreat
open Go.RowKit WireM

set_option maxRecDepth 100000 in
set_option maxHeartbeats 4000000 in
theorem WText_as (w : World) (B g : Nat) (v : Value) (l : List UInt8) (bad : Bool) (m tm : Nat) (A : Option Addr) (n c : Nat) (b : List UInt8) (hW : Wr 65 w B g v l bad) (hm : Blk w m tm #[.slice A n c]) (hR : BytesAt w w.heap.size A n b) (hA : 0 < n → ∀ ad, A = some ad → ¬ FootS g v ad.block) (hl : l.length + 6 + n ≤ 140737488355328)
    (news : List UInt8) (nb : Bool) (Hnb : Hid (nb = (bad || !fitsB [(n : Int)]))) (Hnews : Hid (news = (if nb then [] else enc n) ++ b)) :
    Calls Tryz.prog 11 #[.pointer (some ⟨g, 0, none⟩), .slice (some ⟨m, 0, none⟩) 1 1] w fun e w' => e = .returned (.tuple #[]) ∧ ∃ v', Wr 65 w' B g v' (l ++ news) nb ∧ Foot w g v w' v' := by
  have bytesTy : AppTy Tryz.prog 22 5 (.int .u8 0) 1 1 := AppTy.mk' Tryz.underlying22 (by kernel_rfl) rfl (by decide)
  have hT : 65 ≠ 5 := by decide
  have hcm := hm.cell 0
  have HA := Lib.hid hA
  clear hA
  go_enter Tryz.func11, Tryz.ntmps11
  go_wp2
  go_loopw [8] (fun v8 wr => (v8 = .int .i64 0 ∧ wr = w) ∨ (v8 = .int .i64 1 ∧ ∃ v', Wr 65 wr B g v' (l ++ news) nb ∧ Foot w g v wr v')) (fun v8 _ => 1 - (intOf v8).toNat)
  case atStart => exact Or.inl ⟨rfl, rfl⟩
  case round =>
    rcases hrel with ⟨rfl, rfl⟩ | ⟨rfl, v1, hW1, hF1⟩
    · go_wp2_with fail
      obtain ⟨W0, hW0⟩ : ∃ W0, wr.alloc (.cells #[.int .i64 (n : Int)] 3) = W0 := ⟨_, rfl⟩
      have hG0 : Grow wr W0 := by rw [← hW0]; exact Grow.alloc _ _
      have hb0 : Blk W0 wr.heap.size 3 #[.int .i64 (n : Int)] := by rw [← hW0]; exact Blk.new _ _ _
      have hI0 : IntsAt W0 W0.heap.size (some ⟨wr.heap.size, 0, none⟩) 1 [(n : Int)] := ReadsAt.more hb0.reads1 hb0.lt
      rw [hW0]
      clear hW0
      obtain ⟨nw, hnw⟩ : ∃ nw, nw = if nb then [] else encAll [(n : Int)] := ⟨_, rfl⟩
      refine (WNumber_as W0 B g v l bad _ 1 1 [(n : Int)] (hW.grow hG0) hI0 (fun ad e => by injection e with e; subst e; exact hW.old (Nat.le_refl _)) (by omega) (by simp only [maxLen]; omega) nw nb Hnb (Lib.hid hnw)).mono ?_
      rintro e w2 ⟨rfl, v2, hW2, hF2⟩
      have hF02 := (Foot.grow (g := g) (v := v) hG0).trans hF2
      have hR2 : BytesAt w2 wr.heap.size A n b := hF02.keep.reads' hR (Nat.le_refl _) HA.out
      have hnl : nw.length ≤ 6 := by
        rw [hnw]
        cases hnb : nb with
        | true => simp
        | false =>
          have hx := Hnb.out
          rw [hnb] at hx
          have hf : fitsB [(n : Int)] = true := by
            cases hfb : fitsB [(n : Int)] with
            | true => rfl
            | false => rw [hfb] at hx; simp at hx
          have := encAll_len _ (fits_le hf)
          simpa using this
      obtain ⟨l2, hl2⟩ : ∃ l2, l2 = l ++ nw := ⟨_, rfl⟩
      have hll2 : l2.length + n ≤ 140737488355328 := by rw [hl2, List.length_append]; omega
      rw [← hl2] at hW2
      have Hn2 := Lib.hid (show l ++ news = l2 ++ b by rw [Hnews.out, hl2, hnw, List.append_assoc]; simp [encAll])
      clear hnw hl2
      have hb2 : B ≤ w2.heap.size := Nat.le_trans hW2.base (Nat.le_of_lt hW2.cell.lt)
      have hc2 := hW2.cell.cell 0
      have hblen := hR2.len
      go_wp2_with (at_builtin; refine wpList_append_reads _ rfl (.tmp 23) (.tmp 24) rfl bytesTy rfl hW2.own rfl hR2 (b8_one b) (by simp only [maxLen]; omega) (by omega) hb2 ?_; intro v3 w3 hown hgrow hat; have hM := appW.app (w0 := w2) ⟨hW2, Foot.refl _ _ _⟩ hT (news := b) (by rw [hblen]; exact hown) hgrow hat; have hf3 := hM.2.cell.frozen 0; have hc3 := hM.2.cell.cell 0; obtain ⟨A5, c5, rfl, -⟩ := own_reads hown)
      go_roundw
      case rel =>
        have h2 := hM.2.store undef
        refine Or.inr ⟨by go_num, _, ?_, hF02.trans h2.2.2⟩
        rw [Hn2.out]
        exact h2.2.1
      case measure => simp [intOf]
    · go_wp2
      (try simp only [Exit.inBlock, Exit.then])
      refine Go.Great.bodyPost_end0 rfl rfl ?_
      exact ⟨rfl, v1, hW1, hF1⟩
end Go.Proofs.YtcjbeaohmgfgoaaGreat
