/-
  The walk of wire's Writer.Rising.
-/
import Derived.Test.YtcimkoehcdfjdaaGreatDoorWNumber
import Derived.Test.YtcimkoehcdfjdaaGreatDoorPutOne
import Derived.Test.YtcimkoehcdfjdaaGreatDoorBaseA
namespace Go.Proofs.YtcimkoehcdfjdaaGreatDoor
open Go.RowKit WireM

structure RiseInv (w : World) (B g : Nat) (v : Value) (l : List UInt8) (bad : Bool) (L : List Int) (n k : Nat) (last : Int) (W : World) : Prop where
 wr : ∃ v1 l1 b1, Wr 67 W B g v1 l1 b1 ∧ Foot w g v W v1 ∧ putRising L (stOf l bad) = putRise (last + 1) (L.drop k) (stOf l1 b1) ∧ l1.length ≤ l.length + 6 + 6 * k
 lo : -1 ≤ last
 hi : last ≤ 1099511627776

set_option maxRecDepth 100000 in
set_option maxHeartbeats 4000000 in
theorem WRising_any (w : World) (B g : Nat) (v : Value) (l : List UInt8) (bad : Bool) (A : Option Addr) (n c : Nat) (L : List Int) (hW : Wr 67 w B g v l bad) (hR : IntsAt w w.heap.size A n L) (hA : 0 < n → ∀ ad, A = some ad → ¬ FootS g v ad.block) (hl : l.length + 6 + 6 * n ≤ 140737488355328) :
  Calls Tryz.prog 34 #[.pointer (some ⟨g, 0, none⟩), .slice A n c] w fun e w' => e = .returned (.tuple #[]) ∧ ∃ v' l' bad', Wr 67 w' B g v' l' bad' ∧ Foot w g v w' v' ∧ stOf l' bad' = putRising L (stOf l bad) ∧ l'.length ≤ l.length + 6 + 6 * n := by
 have hT : 67 ≠ 5 := by decide
 have HA := Lib.hid hA
 have hlen := hR.len
 clear hA
 have hI : ∀ w3, Keep (FootS g v) w w3 → IntsAt w3 w.heap.size A n L := fun w3 hk => hk.reads' hR (Nat.le_refl _) HA.out
 have hz : ∀ {w3}, Keep (FootS g v) w w3 → w.heap.size ≤ w3.heap.size := fun hk => hk.size
 obtain ⟨LR, hLR⟩ : ∃ LR, LR = putRising L (stOf l bad) := ⟨_, rfl⟩
 rw [← hLR]
 have HLR := Lib.hid hLR
 clear hLR
 go_enter Tryz.func34, Tryz.ntmps34
 go_wp2_with fail
 obtain ⟨W0, hW0⟩ : ∃ W0, w.alloc (.cells #[.int .i64 (n : Int)] 3) = W0 := ⟨_, rfl⟩
 have hG0 : Grow w W0 := by rw [← hW0]; exact Grow.alloc _ _
 have hb0 : Blk W0 w.heap.size 3 #[.int .i64 (n : Int)] := by rw [← hW0]; exact Blk.new _ _ _
 have hI0 : IntsAt W0 W0.heap.size (some ⟨w.heap.size, 0, none⟩) 1 [(n : Int)] := ReadsAt.more hb0.reads1 hb0.lt
 rw [hW0]
 clear hW0
 obtain ⟨nb2, hnb2⟩ : ∃ b, b = (bad || !fitsB [(n : Int)]) := ⟨_, rfl⟩
 obtain ⟨nw2, hnw2⟩ : ∃ nw, nw = if nb2 then [] else encAll [(n : Int)] := ⟨_, rfl⟩
 refine (WNumber_as W0 B g v l bad _ 1 1 [(n : Int)] (hW.grow hG0) hI0 (fun ad e => by injection e with e; subst e; exact hW.old (Nat.le_refl _)) (by omega) (by simp only [maxLen]; omega) nw2 nb2 (Lib.hid hnb2) (Lib.hid hnw2)).mono ?_
 rintro e w2 ⟨rfl, v2, hW2, hF2⟩
 have hS0 : RiseInv w B g v l bad L n 0 (-1) w2 := ⟨⟨v2, _, _, hW2, (Foot.grow hG0).trans hF2, by rw [stOf_num hnb2 hnw2, List.drop_zero, putRising, hlen]; rfl, by have := news_len hnb2 hnw2; rw [List.length_append]; omega⟩, by omega, by omega⟩
 clear hb0 hI0 hG0 hW2 hF2 hnb2 hnw2
 go_wp2_with fail
 go_loopw [4, 16] (fun v4 v16 wr => ∃ (k : Nat) (last : Int), k ≤ n ∧ v16 = .int .i64 (k : Int) ∧ v4 = .int .i64 last ∧ RiseInv w B g v l bad L n k last wr) (fun _ v16 _ => n - (intOf v16).toNat)
 case atStart => exact ⟨0, -1, by omega, rfl, rfl, hS0⟩
 case round =>
  clear hS0
  obtain ⟨k, last, hk, rfl, rfl, hInv⟩ := hrel
  obtain ⟨⟨v1, l1, b1, hW1, hF1, hst, hl1⟩, hlo, hhi⟩ := hInv
  by_cases hlt : k < n
  ·have hRr := hI wr hF1.keep
   have hzr := hF1.keep.size
   obtain ⟨b, off, rfl, hb, hcl⟩ := hRr.at_ (by omega)
   obtain ⟨x, hx⟩ : ∃ x, L[k]? = some x := ⟨_, List.getElem?_eq_getElem (by rw [hlen]; exact hlt)⟩
   have hcx := hcl k x hx
   have hd : L.drop k = x :: L.drop (k + 1) := by
    have hkl : k < L.length := by rw [hlen]; exact hlt
    rw [List.drop_eq_getElem_cons hkl]
    rw [List.getElem?_eq_getElem hkl] at hx
    injection hx with hx
    rw [hx]
   rw [hd] at hst
   have Hst := Lib.hid hst
   clear hcl hx hd hst
   have hgl := hW1.cell.lt
   have hc0 := hW1.cell.cell 0
   have hc1 := hW1.cell.cell 1
   have hf1 := hW1.cell.frozen 1
   cases b1 with
   | true =>
    go_wp2
    (try simp only [Exit.inBlock, Exit.then])
    refine bodyPost_ret0 rfl rfl ?_
    have h2 := hW1.mark hT true
    refine ⟨rfl, v1, l1, true, h2.1, hF1.trans h2.2, ?_, by omega⟩
    rw [HLR.out, Hst.out]
    exact (putRise_none _ _).symm
   | false =>
    cases hf : fitsB [x] with
    | false =>
     have Hf := Lib.hid hf
     clear hf
     go_wp2_with (go_at_call 61; refine (fits_is _ _ _ 1 1 [x] false Hf.out (ReadsAt.made1 _ _ _) (by simp only [maxLen]; omega)).mono ?_; rintro e w3 ⟨rfl, rfl⟩)
     (try simp only [Exit.inBlock, Exit.then])
     refine bodyPost_ret0 rfl rfl ?_
     have h2 := hW1.mark hT true
     refine ⟨rfl, v1, l1, true, h2.1.grow (Grow.alloc _ _), (hF1.trans h2.2).trans (Foot.grow (Grow.alloc _ _)), ?_, by omega⟩
     rw [HLR.out, Hst.out, putRise]
     have h3 := Hf.out
     rw [fits_one] at h3
     have h4 := of_decide_eq_false h3
     rw [if_pos (by omega)]
     rfl
    | true =>
     have Hf := Lib.hid hf
     have hxf := fits_le hf x (by simp)
     clear hf
     by_cases hxl : x ≤ last
     ·go_wp2_with (go_at_call 61; refine (fits_is _ _ _ 1 1 [x] true Hf.out (ReadsAt.made1 _ _ _) (by simp only [maxLen]; omega)).mono ?_; rintro e w3 ⟨rfl, rfl⟩)
      (try simp only [Exit.inBlock, Exit.then])
      refine bodyPost_ret0 rfl rfl ?_
      have h2 := hW1.mark hT true
      refine ⟨rfl, v1, l1, true, h2.1.grow (Grow.alloc _ _), (hF1.trans h2.2).trans (Foot.grow (Grow.alloc _ _)), ?_, by omega⟩
      rw [HLR.out, Hst.out, putRise, if_pos (by omega)]
      rfl
     ·go_wp2_with (first | (go_at_call 61; refine (fits_is _ _ _ 1 1 [x] true Hf.out (ReadsAt.made1 _ _ _) (by simp only [maxLen]; omega)).mono ?_; rintro e w3 ⟨rfl, rfl⟩) | fail)
      have h2 := hW1.mark hT (decide (x ≤ last))
      obtain ⟨W3, hW3⟩ : ∃ W3, ((wr.setCell ⟨g, 1, none⟩ (.bool (decide (x ≤ last)))).alloc (.cells #[i64v x] 3)).alloc (.cells #[.int .i64 (x - last - 1)] 3) = W3 := ⟨_, rfl⟩
      have hG3 : Grow (wr.setCell ⟨g, 1, none⟩ (.bool (decide (x ≤ last)))) W3 := by rw [← hW3]; exact (Grow.alloc _ _).trans (Grow.alloc _ _)
      have hb3 : Blk W3 (wr.heap.size + 1) 3 #[.int .i64 (x - last - 1)] := by
       rw [← hW3]
       have := Blk.new ((wr.setCell ⟨g, 1, none⟩ (.bool (decide (x ≤ last)))).alloc (.cells #[i64v x] 3)) 3 #[.int .i64 (x - last - 1)]
       simpa using this
      have hI3 : IntsAt W3 W3.heap.size (some ⟨wr.heap.size + 1, 0, none⟩) 1 [x - last - 1] := ReadsAt.more hb3.reads1 hb3.lt
      have hWr3 := h2.1.grow hG3
      rw [decide_eq_false (show ¬ x ≤ last by omega)] at hWr3
      have hF3 := (hF1.trans h2.2).trans (Foot.grow hG3)
      have hz3 : (wr.setCell ⟨g, 1, none⟩ (.bool (decide (x ≤ last)))).heap.size = wr.heap.size := size_setCell _ _ _
      rw [hW3]
      clear hW3
      obtain ⟨nb3, hnb3⟩ : ∃ b, b = (false || !fitsB [x - last - 1]) := ⟨_, rfl⟩
      obtain ⟨nw3, hnw3⟩ : ∃ nw, nw = if nb3 then [] else encAll [x - last - 1] := ⟨_, rfl⟩
      refine (WNumber_as W3 B g v1 l1 false _ 1 1 [x - last - 1] hWr3 hI3 (fun ad e => by injection e with e; subst e; exact fun hf => by have : wr.heap.size + 1 < wr.heap.size := hW1.lt _ hf; omega) (by omega) (by simp only [maxLen]; omega) nw3 nb3 (Lib.hid hnb3) (Lib.hid hnw3)).mono ?_
      rintro e w4 ⟨rfl, v4, hW4, hF4⟩
      have hnl := news_len hnb3 hnw3
      have hso := stOf_num (l := l1) hnb3 hnw3
      clear hnb3 hnw3
      have Hso := Lib.hid hso
      clear hso
      go_wp2
      go_roundw
      case rel =>
       refine ⟨k + 1, x, by omega, by go_num, rfl, ⟨⟨v4, _, _, hW4, hF3.trans hF4, ?_, by rw [List.length_append]; omega⟩, by omega, by omega⟩⟩
       rw [Hst.out, putRise, if_neg (by simp only [maxNum]; omega), Hso.out, stOf_false, show x - (last + 1) = x - last - 1 by omega]
      case measure => simp [intOf]; omega
  ·obtain rfl : k = n := by omega
   go_wp2
   (try simp only [Exit.inBlock, Exit.then])
   refine Go.Great.bodyPost_end0 rfl rfl ?_
   refine ⟨rfl, v1, l1, b1, hW1, hF1, ?_, hl1⟩
   rw [HLR.out, hst, List.drop_of_length_le (by omega)]
   rfl
end Go.Proofs.YtcimkoehcdfjdaaGreatDoor
