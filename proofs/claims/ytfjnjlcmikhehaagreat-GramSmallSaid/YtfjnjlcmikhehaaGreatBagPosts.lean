/-
  The walks of mudlarkkit's bag.onePosting, bag.putPostings.
-/
import Derived.Deep.MidRow
import Derived.Test.YtfjnjlcmikhehaaGreatBag
import Derived.Test.YtfjnjlcmikhehaaGreatBaseE
namespace Go.Proofs.YtfjnjlcmikhehaaGreat
open Go.RowKit

set_option maxRecDepth 100000 in
set_option maxHeartbeats 2000000 in
theorem onePosting_bag (w : World) (g Bt : Nat) (tabs : Nat → Value) (xs : Nat → List Value) (tag : ByteArray) (A : Option Addr) (l c : Nat) (h : BagAt w g Bt tabs xs) (hn : (xs 12).length ≤ 1000000) (hB : Bt ≤ w.heap.size) :
    Calls Tryz.prog 33 #[.pointer (some ⟨g, 0, none⟩), .agg #[.string tag, .slice A l c]] w fun e w' => e = .returned (.tuple #[]) ∧ (∃ tabs', BagAt w' g Bt tabs' (upd xs 12 (xs 12 ++ [.slice A l c]))) ∧ Below Bt w w' := by
  have hP := Blk.new w 42 #[.string tag, .slice A l c]
  have hc := hP.cell 1
  have Hcall := Lib.hid (putPlaces_bag (w.alloc (.cells #[.string tag, .slice A l c] 42)) g Bt tabs xs A l c (h.grow (Grow.alloc _ _)) hn (by simp; omega))
  clear hP
  go_enter Tryz.func33, Tryz.ntmps33
  go_wp2_with fail
  refine Hcall.out.mono ?_
  rintro e w2 ⟨rfl, hb2, hk2⟩
  go_wp2
  (try simp only [Exit.inBlock, Exit.then])
  refine Go.Great.bodyPost_end0 rfl rfl ?_
  exact ⟨rfl, hb2, Below.trans (Below.mono (Grow.alloc w _) hB) hk2⟩

/-- a posting's cells: its gram, and where its places lie -/
abbrev PostV := ByteArray × Value
def postCells (q : PostV) : List Value := [.string q.1, q.2]

set_option maxRecDepth 100000 in
set_option maxHeartbeats 2000000 in
theorem putPostings_bag (w : World) (g Bt : Nat) (tabs : Nat → Value) (xs : Nat → List Value) (A : Option Addr) (N c : Nat) (qs : List PostV) (h : BagAt w g Bt tabs xs)
    (hS : ∀ (j : Nat) (q : PostV), qs[j]? = some q → ∃ A l c, q.2 = .slice A l c) (hq : qs.length = N) (hA : ∀ (j : Nat) (q : PostV), qs[j]? = some q → ∃ b off, A = some ⟨b, off, none⟩ ∧ b < Bt ∧ w.rangeAt b (off + j * 2) (postCells q)) (hn : (xs 12).length + N ≤ 1000000) (hm : (xs 13).length ≤ 1000000) (hB : Bt ≤ w.heap.size) :
    Calls Tryz.prog 24 #[.pointer (some ⟨g, 0, none⟩), .slice A N c] w fun e w' => e = .returned (.tuple #[]) ∧ (∃ tabs', BagAt w' g Bt tabs' (upd (upd xs 13 (xs 13 ++ [.slice A N c])) 12 (xs 12 ++ qs.map fun q => q.2))) ∧ Below Bt w w' := by
  have rowsTy : AppTy Tryz.prog 37 28 (.slice none 0 0) 1 24 := AppTy.mk' Tryz.underlying37 (by kernel_rfl) rfl (by decide)
  have hg0 : Grow w (w.alloc (.cells #[.slice A N c] 28)) := Grow.alloc _ _
  have h1 := h.grow hg0
  have hc := h.cell (i := 13) (by decide)
  have hT1 : (w.alloc (.cells #[.slice A N c] 28)).ownsRow Bt 28 1 (tabs 13) (xs 13).length (xs 13) := h1.own 13 (by decide)
  have hbz : Bt ≤ (w.alloc (.cells #[.slice A N c] 28)).heap.size := by simp; omega
  obtain ⟨A5, c5, e5, -, -, -⟩ := own_reads hT1
  obtain ⟨n, hnn⟩ : ∃ n, n = (xs 13).length := ⟨_, rfl⟩
  rw [e5, ← hnn] at hT1
  rw [e5, ← hnn] at hc
  rw [← hnn] at e5 hm
  have E5 := Lib.hid e5
  have Hnn := Lib.hid hnn
  have HA := Lib.hid hA
  have HS := Lib.hid hS
  have Hq := Lib.hid hq
  clear e5 hnn hA hq hS
  go_enter Tryz.func24, Tryz.ntmps24
  go_wp2_with (at_builtin; refine wpList_append_reads _ rfl (.tmp 9) (.tmp 11) rfl rowsTy rfl hT1 rfl (ReadsAt.made1 w 28 (.slice A N c)) (by simp [Value.oneCell']) (by simp only [maxLen]; omega) (by omega) hbz ?_; intro v' w2 hown2 hgr2 hat2; have hk2 : Keep (fun k => (tabs 13).ownBlock = some k) _ w2 := (by rw [E5.out]; exact Keep.grown hgr2); have hp := h1.put (i := 13) (by decide) hk2 (by rw [← Hnn.out]; exact hown2); have hb2 := hk2.blk h1.blk (fun hb => bagT_ne 13 (by decide) (own_type_blk (h1.own 13 (by decide)) hb h1.blk)); have hf2 := hb2.frozen 13; have hd2 := hb2.cell 13; have hl2 : Below Bt w w2 := Below.trans (Below.mono hg0 hB) (h1.low 13 (by decide) hk2 hbz); obtain ⟨A6, c6, rfl, -, -, -⟩ := own_reads hown2; have Hp := Lib.hid hp; have Hl2 := Lib.hid hl2; clear hown2 hgr2 hat2 hb2 hp hk2 hl2)
  have hI0 : ∃ tabs', BagAt (w2.setCell ⟨g, 13, none⟩ (.slice A6 (n + 1) c6)) g Bt tabs' (upd (upd xs 13 (xs 13 ++ [.slice A N c])) 12 (xs 12 ++ (qs.take 0).map fun q => q.2)) := ⟨_, by
    rw [show xs 12 ++ (qs.take 0).map (fun q => q.2) = (upd xs 13 (xs 13 ++ [.slice A N c])) 12 by rw [upd_ne _ _ (by decide)]; simp, upd_same]
    exact Hp.out⟩
  have HI0 := Lib.hid hI0
  have hL0 : Below Bt w (w2.setCell ⟨g, 13, none⟩ (.slice A6 (n + 1) c6)) := Below.setCell Hl2.out (p := ⟨g, 13, none⟩) h.ge _
  have HL0 := Lib.hid hL0
  clear hI0 hL0 hf2 hd2 hc hT1
  go_wp2
  go_loopw [4] (fun v4 wr => ∃ k : Nat, k ≤ N ∧ v4 = .int .i64 (k : Int) ∧ Hid (∃ tabs', BagAt wr g Bt tabs' (upd (upd xs 13 (xs 13 ++ [.slice A N c])) 12 (xs 12 ++ (qs.take k).map fun q => q.2))) ∧ Hid (Below Bt w wr)) (fun v4 _ => N - (intOf v4).toNat)
  case atStart => exact ⟨0, by omega, rfl, HI0, HL0⟩
  case round =>
    clear HI0 HL0 Hp Hl2
    obtain ⟨k, hk, rfl, hI, hL⟩ := hrel
    by_cases hlt : k < N
    · obtain ⟨q, hqk⟩ : ∃ q, qs[k]? = some q := ⟨_, List.getElem?_eq_getElem (by rw [Hq.out]; exact hlt)⟩
      obtain ⟨b, off, rfl, hbB, hr⟩ := HA.out k q hqk
      have hr2 : wr.rangeAt b (off + k * 2) (postCells q) := fun i v hv => (hL.out.cell (p := ⟨b, off + k * 2 + i, none⟩) hbB).trans (hr i v hv)
      obtain ⟨tabs1, hb1⟩ := hI.out
      obtain ⟨A1, l1, c1, hq2⟩ := HS.out k q hqk
      obtain ⟨tag, xv⟩ := q
      have hq2 : xv = .slice A1 l1 c1 := hq2
      subst hq2
      have Hm := Lib.hid (show wr.rangeAt b (off + k * 2) [.string tag, .slice A1 l1 c1] from hr2)
      have hbs := hL.out.size
      have hlen5 : (upd (upd xs 13 (xs 13 ++ [.slice (some ⟨b, off, none⟩) N c])) 12 (xs 12 ++ (qs.take k).map fun q => q.2) 12).length ≤ 1000000 := by
        rw [upd_self, List.length_append, List.length_map, List.length_take]
        omega
      have hcall := onePosting_bag wr g Bt tabs1 _ tag A1 l1 c1 hb1 hlen5 (by omega)
      rw [upd_self, upd_upd, List.append_assoc, show (qs.take k).map (fun q => q.2) ++ [.slice A1 l1 c1] = (qs.take (k + 1)).map fun q => q.2 by rw [List.take_add_one, hqk, List.map_append]; rfl] at hcall
      have Hcall := Lib.hid hcall
      clear hr hr2 hqk hb1 hcall hlen5
      go_wp2_with (refine wpList_load_mid rfl 42 (.tmp 24) rfl b (off + k * 2) rfl _ _ Hm.out Tryz.underlying42 rfl (by kernel_rfl) ?_)
      refine Hcall.out.mono ?_
      rintro e w5 ⟨rfl, hb5, hk5⟩
      have HI5 := Lib.hid hb5
      have HL5 := Lib.hid (Below.trans hL.out hk5)
      clear hb5 hk5
      go_wp2
      go_roundw
      case rel => exact ⟨k + 1, by omega, by go_num, HI5, HL5⟩
      case measure => simp [intOf]; omega
    · obtain rfl : k = N := by omega
      have hI2 := hI.out
      rw [List.take_of_length_le (by rw [Hq.out]; exact Nat.le_refl _)] at hI2
      have HI2 := Lib.hid hI2
      clear hI2 hI
      go_wp2
      (try simp only [Exit.inBlock, Exit.then])
      refine Go.Great.bodyPost_end0 rfl rfl ?_
      exact ⟨rfl, HI2.out, hL.out⟩
end Go.Proofs.YtfjnjlcmikhehaaGreat
