/-
  The walks of mudlarkkit's bag.oneShardRef, bag.putShardRefs, bag.oneManifest, and bag.putManifests of a list of one.
  The walks of mudlarkkit's bag.apart for rows of numbers, shards and manifests, and of ApartManifests. Printed by gen/bagmani.py.
-/
import Derived.Deep.MidRow
import Derived.Test.YtcimkoehcdfjdaaGreatDoorBag
import Derived.Test.YtcimkoehcdfjdaaGreatDoorBaseB
import Derived.Test.YtcimkoehcdfjdaaGreatDoorOwnRows
import Derived.Test.YtcimkoehcdfjdaaGreatDoorFlatMani
import Derived.Test.YtcimkoehcdfjdaaGreatDoorManiGot
import Derived.Test.YtcimkoehcdfjdaaGreatDoorApartAll
namespace Go.Proofs.YtcimkoehcdfjdaaGreatDoor
open Go.RowKit

set_option maxRecDepth 100000 in
set_option maxHeartbeats 2000000 in
theorem oneShardRef_bag (w : World) (g Bt : Nat) (tabs : Nat → Value) (xs : Nat → List Value) (a1 a2 a3 : Int) (A : Option Addr) (l c : Nat) (h : BagAt w g Bt tabs xs) (hn : (xs 2).length ≤ 1000000) (hB : Bt ≤ w.heap.size) :
  Calls Tryz.prog 163 #[.pointer (some ⟨g, 0, none⟩), .agg #[.int .i64 a1, .int .i64 a2, .int .u32 a3, .slice A l c]] w fun e w' => e = .returned (.tuple #[]) ∧ (∃ tabs', BagAt w' g Bt tabs' (upd xs 2 (xs 2 ++ [.slice A l c]))) ∧ Below Bt w w' := by
 have hP := Blk.new w 52 #[.int .i64 a1, .int .i64 a2, .int .u32 a3, .slice A l c]
 have hc := hP.cell 3
 have Hcall := Lib.hid (putInts_bag (w.alloc (.cells #[.int .i64 a1, .int .i64 a2, .int .u32 a3, .slice A l c] 52)) g Bt tabs xs A l c (h.grow (Grow.alloc _ _)) hn (by simp; omega))
 clear hP
 go_enter Tryz.func163, Tryz.ntmps163
 go_wp2_with fail
 refine Hcall.out.mono ?_
 rintro e w2 ⟨rfl, hb2, hk2⟩
 go_wp2
 (try simp only [Exit.inBlock, Exit.then])
 refine Go.Great.bodyPost_end0 rfl rfl ?_
 exact ⟨rfl, hb2, Below.trans (Below.mono (Grow.alloc w _) hB) hk2⟩

abbrev ShV := (Int × Int × Int) × Value
def shCells (q : ShV) : List Value := [.int .i64 q.1.1, .int .i64 q.1.2.1, .int .u32 q.1.2.2, q.2]

set_option maxRecDepth 100000 in
set_option maxHeartbeats 2000000 in
theorem putShardRefs_bag (w : World) (g Bt : Nat) (tabs : Nat → Value) (xs : Nat → List Value) (A : Option Addr) (N c : Nat) (qs : List ShV) (h : BagAt w g Bt tabs xs)
  (hS : ∀ (j : Nat) (q : ShV), qs[j]? = some q → ∃ A l c, q.2 = .slice A l c) (hq : qs.length = N) (hA : ∀ (j : Nat) (q : ShV), qs[j]? = some q → ∃ b off, A = some ⟨b, off, none⟩ ∧ b < Bt ∧ w.rangeAt b (off + j * 4) (shCells q)) (hn : (xs 2).length + N ≤ 1000000) (hm : (xs 14).length ≤ 1000000) (hB : Bt ≤ w.heap.size) :
  Calls Tryz.prog 145 #[.pointer (some ⟨g, 0, none⟩), .slice A N c] w fun e w' => e = .returned (.tuple #[]) ∧ (∃ tabs', BagAt w' g Bt tabs' (upd (upd xs 14 (xs 14 ++ [.slice A N c])) 2 (xs 2 ++ qs.map fun q => q.2))) ∧ Below Bt w w' := by
 have rowsTy : AppTy Tryz.prog 86 22 (.slice none 0 0) 1 24 := AppTy.mk' Tryz.underlying86 (by kernel_rfl) rfl (by decide)
 have hg0 : Grow w (w.alloc (.cells #[.slice A N c] 22)) := Grow.alloc _ _
 have h1 := h.grow hg0
 have hc := h.cell (i := 14) (by decide)
 have hT1 : (w.alloc (.cells #[.slice A N c] 22)).ownsRow Bt 22 1 (tabs 14) (xs 14).length (xs 14) := h1.own 14 (by decide)
 have hbz : Bt ≤ (w.alloc (.cells #[.slice A N c] 22)).heap.size := by simp; omega
 obtain ⟨A5, c5, e5, -, -, -⟩ := own_reads hT1
 obtain ⟨n, hnn⟩ : ∃ n, n = (xs 14).length := ⟨_, rfl⟩
 rw [e5, ← hnn] at hT1
 rw [e5, ← hnn] at hc
 rw [← hnn] at e5 hm
 have E5 := Lib.hid e5
 have Hnn := Lib.hid hnn
 have HA := Lib.hid hA
 have HS := Lib.hid hS
 have Hq := Lib.hid hq
 clear e5 hnn hA hq hS
 go_enter Tryz.func145, Tryz.ntmps145
 go_wp2_with (at_builtin; refine wpList_append_reads _ rfl (.tmp 9) (.tmp 11) rfl rowsTy rfl hT1 rfl (ReadsAt.made1 w 22 (.slice A N c)) (by simp [Value.oneCell']) (by simp only [maxLen]; omega) (by omega) hbz ?_; intro v' w2 hown2 hgr2 hat2; have hk2 : Keep (fun k => (tabs 14).ownBlock = some k) _ w2 := (by rw [E5.out]; exact Keep.grown hgr2); have hp := h1.put (i := 14) (by decide) hk2 (by rw [← Hnn.out]; exact hown2); have hb2 := hk2.blk h1.blk (fun hb => bagT_ne 14 (by decide) (own_type_blk (h1.own 14 (by decide)) hb h1.blk)); have hf2 := hb2.frozen 14; have hd2 := hb2.cell 14; have hl2 : Below Bt w w2 := Below.trans (Below.mono hg0 hB) (h1.low 14 (by decide) hk2 hbz); obtain ⟨A6, c6, rfl, -, -, -⟩ := own_reads hown2; have Hp := Lib.hid hp; have Hl2 := Lib.hid hl2; clear hown2 hgr2 hat2 hb2 hp hk2 hl2)
 have hI0 : ∃ tabs', BagAt (w2.setCell ⟨g, 14, none⟩ (.slice A6 (n + 1) c6)) g Bt tabs' (upd (upd xs 14 (xs 14 ++ [.slice A N c])) 2 (xs 2 ++ (qs.take 0).map fun q => q.2)) := ⟨_, by
  rw [show xs 2 ++ (qs.take 0).map (fun q => q.2) = (upd xs 14 (xs 14 ++ [.slice A N c])) 2 by rw [upd_ne _ _ (by decide)]; simp, upd_same]
  exact Hp.out⟩
 have HI0 := Lib.hid hI0
 have hL0 : Below Bt w (w2.setCell ⟨g, 14, none⟩ (.slice A6 (n + 1) c6)) := Below.setCell Hl2.out (p := ⟨g, 14, none⟩) h.ge _
 have HL0 := Lib.hid hL0
 clear hI0 hL0 hf2 hd2 hc hT1
 go_wp2
 go_loopw [4] (fun v4 wr => ∃ k : Nat, k ≤ N ∧ v4 = .int .i64 (k : Int) ∧ Hid (∃ tabs', BagAt wr g Bt tabs' (upd (upd xs 14 (xs 14 ++ [.slice A N c])) 2 (xs 2 ++ (qs.take k).map fun q => q.2))) ∧ Hid (Below Bt w wr)) (fun v4 _ => N - (intOf v4).toNat)
 case atStart => exact ⟨0, by omega, rfl, HI0, HL0⟩
 case round =>
  clear HI0 HL0 Hp Hl2
  obtain ⟨k, hk, rfl, hI, hL⟩ := hrel
  by_cases hlt : k < N
  ·obtain ⟨q, hqk⟩ : ∃ q, qs[k]? = some q := ⟨_, List.getElem?_eq_getElem (by rw [Hq.out]; exact hlt)⟩
   obtain ⟨b, off, rfl, hbB, hr⟩ := HA.out k q hqk
   have hr2 : wr.rangeAt b (off + k * 4) (shCells q) := fun i v hv => (hL.out.cell (p := ⟨b, off + k * 4 + i, none⟩) hbB).trans (hr i v hv)
   obtain ⟨tabs1, hb1⟩ := hI.out
   obtain ⟨A1, l1, c1, hq2⟩ := HS.out k q hqk
   obtain ⟨⟨a1, a2, a3⟩, xv⟩ := q
   have hq2 : xv = .slice A1 l1 c1 := hq2
   subst hq2
   have Hm := Lib.hid (show wr.rangeAt b (off + k * 4) [.int .i64 a1, .int .i64 a2, .int .u32 a3, .slice A1 l1 c1] from hr2)
   have hbs := hL.out.size
   have hlen5 : (upd (upd xs 14 (xs 14 ++ [.slice (some ⟨b, off, none⟩) N c])) 2 (xs 2 ++ (qs.take k).map fun q => q.2) 2).length ≤ 1000000 := by
    rw [upd_self, List.length_append, List.length_map, List.length_take]
    omega
   have hcall := oneShardRef_bag wr g Bt tabs1 _ a1 a2 a3 A1 l1 c1 hb1 hlen5 (by omega)
   rw [upd_self, upd_upd, List.append_assoc, show (qs.take k).map (fun q => q.2) ++ [.slice A1 l1 c1] = (qs.take (k + 1)).map fun q => q.2 by rw [List.take_add_one, hqk, List.map_append]; rfl] at hcall
   have Hcall := Lib.hid hcall
   clear hr hr2 hqk hb1 hcall hlen5
   go_wp2_with (refine wpList_load_mid rfl 52 (.tmp 24) rfl b (off + k * 4) rfl _ _ Hm.out Tryz.underlying52 rfl (by kernel_rfl) ?_)
   refine Hcall.out.mono ?_
   rintro e w5 ⟨rfl, hb5, hk5⟩
   have HI5 := Lib.hid hb5
   have HL5 := Lib.hid (Below.trans hL.out hk5)
   clear hb5 hk5
   go_wp2
   go_roundw
   case rel => exact ⟨k + 1, by omega, by go_num, HI5, HL5⟩
   case measure => simp [intOf]; omega
  ·obtain rfl : k = N := by omega
   have hI2 := hI.out
   rw [List.take_of_length_le (by rw [Hq.out]; exact Nat.le_refl _)] at hI2
   have HI2 := Lib.hid hI2
   clear hI2 hI
   go_wp2
   (try simp only [Exit.inBlock, Exit.then])
   refine Go.Great.bodyPost_end0 rfl rfl ?_
   exact ⟨rfl, HI2.out, hL.out⟩

set_option maxRecDepth 100000 in
set_option maxHeartbeats 2000000 in
theorem oneManifest_bag (w : World) (g Bt : Nat) (tabs : Nat → Value) (xs : Nat → List Value) (gen : Int) (A : Option Addr) (N c : Nat) (qs : List ShV) (h : BagAt w g Bt tabs xs)
  (hS : ∀ (j : Nat) (q : ShV), qs[j]? = some q → ∃ A l c, q.2 = .slice A l c) (hq : qs.length = N) (hA : ∀ (j : Nat) (q : ShV), qs[j]? = some q → ∃ b off, A = some ⟨b, off, none⟩ ∧ b < Bt ∧ w.rangeAt b (off + j * 4) (shCells q)) (hn : (xs 2).length + N ≤ 1000000) (hm : (xs 14).length ≤ 1000000) (hB : Bt ≤ w.heap.size) :
  Calls Tryz.prog 104 #[.pointer (some ⟨g, 0, none⟩), .agg #[.int .i64 gen, .slice A N c]] w fun e w' => e = .returned (.tuple #[]) ∧ (∃ tabs', BagAt w' g Bt tabs' (upd (upd xs 14 (xs 14 ++ [.slice A N c])) 2 (xs 2 ++ qs.map fun q => q.2))) ∧ Below Bt w w' := by
 have hG : Grow w (w.alloc (.cells #[.int .i64 gen, .slice A N c] 24)) := Grow.alloc _ _
 have hP := Blk.new w 24 #[.int .i64 gen, .slice A N c]
 have hc := hP.cell 1
 have Hcall := Lib.hid (putShardRefs_bag (w.alloc (.cells #[.int .i64 gen, .slice A N c] 24)) g Bt tabs xs A N c qs (h.grow hG) hS hq (fun j q hj => by
  obtain ⟨b, off, e, hb, hr⟩ := hA j q hj
  exact ⟨b, off, e, hb, fun i v hv => (hG.cell (p := ⟨b, off + j * 4 + i, none⟩) (by show b < w.heap.size; omega)).trans (hr i v hv)⟩) hn hm (by simp; omega))
 clear hP hA hS hG
 go_enter Tryz.func104, Tryz.ntmps104
 go_wp2_with fail
 refine Hcall.out.mono ?_
 rintro e w2 ⟨rfl, hb2, hk2⟩
 go_wp2
 (try simp only [Exit.inBlock, Exit.then])
 refine Go.Great.bodyPost_end0 rfl rfl ?_
 exact ⟨rfl, hb2, Below.trans (Below.mono (Grow.alloc w _) hB) hk2⟩

def maniXs (xs : Nat → List Value) (lv sv : Value) (ds : List Value) : Nat → Nat → List Value
 | 0 => upd xs 15 (xs 15 ++ [lv])
 | _ => upd (upd (upd xs 15 (xs 15 ++ [lv])) 14 (xs 14 ++ [sv])) 2 (xs 2 ++ ds)
set_option maxRecDepth 100000 in
set_option maxHeartbeats 2000000 in
theorem putManifests_bag (w : World) (g Bt : Nat) (tabs : Nat → Value) (xs : Nat → List Value) (lb cl : Nat) (gen : Int) (A : Option Addr) (N c : Nat) (qs : List ShV) (h : BagAt w g Bt tabs xs)
  (hL : lb < Bt ∧ w.rangeAt lb 0 [.int .i64 gen, .slice A N c])
  (hS : ∀ (j : Nat) (q : ShV), qs[j]? = some q → ∃ A l c, q.2 = .slice A l c) (hq : qs.length = N) (hA : ∀ (j : Nat) (q : ShV), qs[j]? = some q → ∃ b off, A = some ⟨b, off, none⟩ ∧ b < Bt ∧ w.rangeAt b (off + j * 4) (shCells q)) (hn : (xs 2).length + N ≤ 1000000) (hm : (xs 14).length ≤ 1000000) (hm2 : (xs 15).length ≤ 1000000) (hB : Bt ≤ w.heap.size) :
  Calls Tryz.prog 53 #[.pointer (some ⟨g, 0, none⟩), .slice (some ⟨lb, 0, none⟩) 1 cl] w fun e w' => e = .returned (.tuple #[]) ∧ (∃ tabs', BagAt w' g Bt tabs' (maniXs xs (.slice (some ⟨lb, 0, none⟩) 1 cl) (.slice A N c) (qs.map fun q => q.2) 1)) ∧ Below Bt w w' := by
 have rowsTy : AppTy Tryz.prog 47 46 (.slice none 0 0) 1 24 := AppTy.mk' Tryz.underlying47 (by kernel_rfl) rfl (by decide)
 obtain ⟨lv, hlv⟩ : ∃ lv, lv = Value.slice (some ⟨lb, 0, none⟩) 1 cl := ⟨_, rfl⟩
 have hg0 : Grow w (w.alloc (.cells #[.slice (some ⟨lb, 0, none⟩) 1 cl] 46)) := Grow.alloc _ _
 have h1 := h.grow hg0
 have hc := h.cell (i := 15) (by decide)
 have hT1 : (w.alloc (.cells #[.slice (some ⟨lb, 0, none⟩) 1 cl] 46)).ownsRow Bt 46 1 (tabs 15) (xs 15).length (xs 15) := h1.own 15 (by decide)
 have hbz : Bt ≤ (w.alloc (.cells #[.slice (some ⟨lb, 0, none⟩) 1 cl] 46)).heap.size := by simp; omega
 obtain ⟨A5, c5, e5, -, -, -⟩ := own_reads hT1
 obtain ⟨n, hnn⟩ : ∃ n, n = (xs 15).length := ⟨_, rfl⟩
 rw [e5, ← hnn] at hT1
 rw [e5, ← hnn] at hc
 rw [← hnn] at e5 hm2
 have E5 := Lib.hid e5
 have Hnn := Lib.hid hnn
 have HA := Lib.hid hA
 have HS := Lib.hid hS
 have Hq := Lib.hid hq
 have Hlv := Lib.hid hlv
 clear e5 hnn hA hq hS hlv
 go_enter Tryz.func53, Tryz.ntmps53
 go_wp2_with (at_builtin; refine wpList_append_reads _ rfl (.tmp 9) (.tmp 11) rfl rowsTy rfl hT1 rfl (ReadsAt.made1 w 46 (.slice (some ⟨lb, 0, none⟩) 1 cl)) (by simp [Value.oneCell']) (by simp only [maxLen]; omega) (by omega) hbz ?_; intro v' w2 hown2 hgr2 hat2; have hk2 : Keep (fun k => (tabs 15).ownBlock = some k) _ w2 := (by rw [E5.out]; exact Keep.grown hgr2); have hp := h1.put (i := 15) (by decide) hk2 (by rw [← Hnn.out]; exact hown2); have hb2 := hk2.blk h1.blk (fun hb => bagT_ne 15 (by decide) (own_type_blk (h1.own 15 (by decide)) hb h1.blk)); have hf2 := hb2.frozen 15; have hd2 := hb2.cell 15; have hl2 : Below Bt w w2 := Below.trans (Below.mono hg0 hB) (h1.low 15 (by decide) hk2 hbz); obtain ⟨A6, c6, rfl, -, -, -⟩ := own_reads hown2; have Hp := Lib.hid hp; have Hl2 := Lib.hid hl2; clear hown2 hgr2 hat2 hb2 hp hk2 hl2)
 have HI0 := Lib.hid (show ∃ tabs', BagAt (w2.setCell ⟨g, 15, none⟩ (.slice A6 (n + 1) c6)) g Bt tabs' (maniXs xs (.slice (some ⟨lb, 0, none⟩) 1 cl) (.slice A N c) (qs.map fun q => q.2) 0) from ⟨_, Hp.out⟩)
 have hL0 : Below Bt w (w2.setCell ⟨g, 15, none⟩ (.slice A6 (n + 1) c6)) := Below.setCell Hl2.out (p := ⟨g, 15, none⟩) h.ge _
 have HL0 := Lib.hid hL0
 clear hL0 hf2 hd2 hc hT1
 go_wp2
 go_loopw [4] (fun v4 wr => ∃ k : Nat, k ≤ 1 ∧ v4 = .int .i64 (k : Int) ∧ Hid (∃ tabs', BagAt wr g Bt tabs' (maniXs xs (.slice (some ⟨lb, 0, none⟩) 1 cl) (.slice A N c) (qs.map fun q => q.2) k)) ∧ Hid (Below Bt w wr)) (fun v4 _ => 1 - (intOf v4).toNat)
 case atStart => exact ⟨0, by omega, rfl, HI0, HL0⟩
 case round =>
  clear HI0 HL0 Hp Hl2
  obtain ⟨k, hk, rfl, hI, hL1⟩ := hrel
  by_cases hlt : k < 1
  ·have hk0 : (k : Int) = 0 := by omega
   have hk0' : k = 0 := by omega
   have hr2 : wr.rangeAt lb 0 [.int .i64 gen, .slice A N c] := fun i v hv => (hL1.out.cell (p := ⟨lb, 0 + i, none⟩) hL.1).trans (hL.2 i v hv)
   obtain ⟨tabs1, hb1⟩ := hI.out
   have hbs := hL1.out.size
   rw [hk0'] at hb1
   have hcall := oneManifest_bag wr g Bt tabs1 _ gen A N c qs hb1 HS.out Hq.out (fun j q hj => by
    obtain ⟨b, off, e, hb, hr⟩ := HA.out j q hj
    exact ⟨b, off, e, hb, fun i v hv => (hL1.out.cell (p := ⟨b, off + j * 4 + i, none⟩) hb).trans (hr i v hv)⟩) (by rw [maniXs, upd_ne _ _ (by decide)]; exact hn) (by rw [maniXs, upd_ne _ _ (by decide)]; exact hm) (by omega)
   rw [show (maniXs xs (.slice (some ⟨lb, 0, none⟩) 1 cl) (.slice A N c) (qs.map fun q => q.2) 0) 14 = xs 14 by rw [maniXs, upd_ne _ _ (by decide)], show (maniXs xs (.slice (some ⟨lb, 0, none⟩) 1 cl) (.slice A N c) (qs.map fun q => q.2) 0) 2 = xs 2 by rw [maniXs, upd_ne _ _ (by decide)]] at hcall
   have Hcall := Lib.hid hcall
   have Hm := Lib.hid hr2
   clear hr2 hb1 hcall hk0'
   go_wp2_with (refine wpList_load_mid rfl 24 (.tmp 24) rfl lb 0 rfl _ _ Hm.out Tryz.underlying24 rfl (by kernel_rfl) ?_)
   refine Hcall.out.mono ?_
   rintro e w5 ⟨rfl, hb5, hk5⟩
   have HI5 := Lib.hid (show ∃ tabs', BagAt w5 g Bt tabs' (maniXs xs (.slice (some ⟨lb, 0, none⟩) 1 cl) (.slice A N c) (qs.map fun q => q.2) (k + 1)) from hb5)
   have HL5 := Lib.hid (Below.trans hL1.out hk5)
   clear hb5 hk5
   go_wp2
   go_roundw
   case rel => exact ⟨k + 1, by omega, by go_num, HI5, HL5⟩
   case measure => simp [intOf]; omega
  ·obtain rfl : k = 1 := by omega
   have HI2 := hI
   clear hI
   go_wp2
   (try simp only [Exit.inBlock, Exit.then])
   refine Go.Great.bodyPost_end0 rfl rfl ?_
   exact ⟨rfl, HI2.out, hL1.out⟩
end Go.Proofs.YtcimkoehcdfjdaaGreatDoor

namespace Go.Proofs.YtcimkoehcdfjdaaGreatDoor
open Go.RowKit WireM

theorem flatBytes_nil (w : World) : Calls Tryz.prog 75 #[.slice none 0 0] w fun e w' => e = .returned (.bool true) ∧ Grow w w' :=
 (flatBytes_any w w.heap.size w.heap.size none 0 0 [] (fun _ => 0) (World.ownsRow_nil _ _ _ _) (fun j v h => by simp at h) (fun i j v v' b h => by simp at h) (Nat.le_refl _) (by omega) (fun _ => by omega)).mono fun _ _ ⟨h, hk, _⟩ =>
  ⟨h, hk.below (fun k ⟨j, v, hj, _⟩ => by simp at hj) (Nat.le_refl _)⟩

set_option maxRecDepth 100000 in
set_option maxHeartbeats 8000000 in
theorem apart_Manis (w : World) (g B Bt : Nat) (tabs : Nat → Value) (xs : Nat → List Value) (h : BagAt w g Bt tabs xs) (hnil : ∀ i, ([2, 14, 15] : List Nat).contains i = false → xs i = []) (hB : B ≤ w.heap.size) (N2 : Nat → Nat) (hR2 : ∀ (j : Nat) (v : Value), (xs 2)[j]? = some v → ∃ L, w.ownsRow B 3 1 v (N2 j) L) (hd2 : DistV (xs 2)) (hm2 : (xs 2).length ≤ 100000) (hN2 : ∀ j, N2 j ≤ 1000000) (N14 : Nat → Nat) (hR14 : ∀ (j : Nat) (v : Value), (xs 14)[j]? = some v → ∃ L, w.ownsRow B 52 4 v (N14 j) L) (hd14 : DistV (xs 14)) (hm14 : (xs 14).length ≤ 100000) (hN14 : ∀ j, N14 j ≤ 1000000) (N15 : Nat → Nat) (hR15 : ∀ (j : Nat) (v : Value), (xs 15)[j]? = some v → ∃ L, w.ownsRow B 24 2 v (N15 j) L) (hd15 : DistV (xs 15)) (hm15 : (xs 15).length ≤ 100000) (hN15 : ∀ j, N15 j ≤ 1000000) :
  Calls Tryz.prog 40 #[.pointer (some ⟨g, 0, none⟩)] w fun e w' => e = .returned (.bool true) ∧ Keep (fun b => OwnS (xs 2) b ∨ OwnS (xs 14) b ∨ OwnS (xs 15) b) w w' := by
 obtain ⟨m2, hmm2⟩ : ∃ m, m = (xs 2).length := ⟨_, rfl⟩
 have hT2 : w.ownsRow Bt 49 1 (tabs 2) (xs 2).length (xs 2) := h.own 2 (by decide)
 obtain ⟨A2, c2, e2, -, -, -⟩ := own_reads hT2
 rw [e2] at hT2
 rw [← hmm2] at e2 hT2 hm2
 obtain ⟨m14, hmm14⟩ : ∃ m, m = (xs 14).length := ⟨_, rfl⟩
 have hT14 : w.ownsRow Bt 22 1 (tabs 14) (xs 14).length (xs 14) := h.own 14 (by decide)
 obtain ⟨A14, c14, e14, -, -, -⟩ := own_reads hT14
 rw [e14] at hT14
 rw [← hmm14] at e14 hT14 hm14
 obtain ⟨m15, hmm15⟩ : ∃ m, m = (xs 15).length := ⟨_, rfl⟩
 have hT15 : w.ownsRow Bt 46 1 (tabs 15) (xs 15).length (xs 15) := h.own 15 (by decide)
 obtain ⟨A15, c15, e15, -, -, -⟩ := own_reads hT15
 rw [e15] at hT15
 rw [← hmm15] at e15 hT15 hm15
 have HT2 := Lib.hid hT2
 have HR2 := Lib.hid hR2
 have Hd2 := Lib.hid hd2
 have HN2 := Lib.hid hN2
 have hgS2 : ¬ OwnS (xs 2) g := fun ⟨j, v, hv, hvb⟩ => by
  obtain ⟨L, hL⟩ := hR2 j v hv
  exact absurd (own_type_blk hL hvb h.blk) (by decide)
 have HT14 := Lib.hid hT14
 have HR14 := Lib.hid hR14
 have Hd14 := Lib.hid hd14
 have HN14 := Lib.hid hN14
 have hgS14 : ¬ OwnS (xs 14) g := fun ⟨j, v, hv, hvb⟩ => by
  obtain ⟨L, hL⟩ := hR14 j v hv
  exact absurd (own_type_blk hL hvb h.blk) (by decide)
 have HT15 := Lib.hid hT15
 have HR15 := Lib.hid hR15
 have Hd15 := Lib.hid hd15
 have HN15 := Lib.hid hN15
 have hgS15 : ¬ OwnS (xs 15) g := fun ⟨j, v, hv, hvb⟩ => by
  obtain ⟨L, hL⟩ := hR15 j v hv
  exact absurd (own_type_blk hL hvb h.blk) (by decide)
 have hb0 : Blk w g 93 #[.slice none 0 0, .slice none 0 0, .slice A2 m2 c2, .slice none 0 0, .slice none 0 0, .slice none 0 0, .slice none 0 0, .slice none 0 0, .slice none 0 0, .slice none 0 0, .slice none 0 0, .slice none 0 0, .slice none 0 0, .slice none 0 0, .slice A14 m14 c14, .slice A15 m15 c15, .slice none 0 0, .slice none 0 0, .slice none 0 0, .slice none 0 0, .slice none 0 0] := by
  have hb := h.blk
  simp only [bagF, e2, e14, e15, h.nil 0 (by decide) (hnil 0 (by decide)), h.nil 1 (by decide) (hnil 1 (by decide)), h.nil 3 (by decide) (hnil 3 (by decide)), h.nil 4 (by decide) (hnil 4 (by decide)), h.nil 5 (by decide) (hnil 5 (by decide)), h.nil 6 (by decide) (hnil 6 (by decide)), h.nil 7 (by decide) (hnil 7 (by decide)), h.nil 8 (by decide) (hnil 8 (by decide)), h.nil 9 (by decide) (hnil 9 (by decide)), h.nil 10 (by decide) (hnil 10 (by decide)), h.nil 11 (by decide) (hnil 11 (by decide)), h.nil 12 (by decide) (hnil 12 (by decide)), h.nil 13 (by decide) (hnil 13 (by decide)), h.nil 16 (by decide) (hnil 16 (by decide)), h.nil 17 (by decide) (hnil 17 (by decide)), h.nil 18 (by decide) (hnil 18 (by decide)), h.nil 19 (by decide) (hnil 19 (by decide)), h.nil 20 (by decide) (hnil 20 (by decide))] at hb
  exact hb
 have hK0 : Keep (fun _ => False) w w := Keep.refl _ w
 have hc0 := hb0.cell 0
 clear hT2 hR2 hd2 hN2 e2 hmm2 hT14 hR14 hd14 hN14 e14 hmm14 hT15 hR15 hd15 hN15 e15 hmm15 hnil h
 go_enter Tryz.func40, Tryz.ntmps40
 go_wp2_with (first | (go_at_call 70; refine (flatLimbs_nil _).mono ?_; rintro e w1 ⟨rfl, hg1⟩; have hb1 := hb0.below hg1 hb0.lt; have hK1 : Keep (fun _ => False) w w1 := hK0.trans' (Keep.grow hg1); have hc1 := hb1.cell 1) | (go_at_call 71; refine (flatWords_nil _).mono ?_; rintro e w2 ⟨rfl, hg2⟩; have hb2 := hb1.below hg2 hb1.lt; have hK2 : Keep (fun _ => False) w w2 := hK1.trans' (Keep.grow hg2); have hc2 := hb2.cell 2; clear hc1) | (go_at_call 72; refine (flatInts_any _ B Bt A2 m2 c2 (xs 2) N2 (hK2.own HT2.out (fun _ _ h => h)) (fun j v hv => by obtain ⟨L, hL⟩ := HR2.out j v hv; exact ⟨L, hK2.own hL (fun _ _ h => h)⟩) Hd2.out (Nat.le_trans hB hK2.size) (by omega) (fun j => Nat.le_trans (HN2.out j) (by decide))).mono ?_; rintro e w3 ⟨rfl, hk3, -⟩; have hb3 := hk3.blk hb2 hgS2; have hK3 : Keep (fun b => OwnS (xs 2) b) w w3 := Keep.trans' (Keep.mono hK2 (fun j hj => hj.elim)) (Keep.mono hk3 (fun j hj => Or.inl hj)); have hc3 := hb3.cell 3; clear hc2) | (go_at_call 73; refine (flatLongs_nil _).mono ?_; rintro e w4 ⟨rfl, hg4⟩; have hb4 := hb3.below hg4 hb3.lt; have hK4 : Keep (fun b => OwnS (xs 2) b) w w4 := hK3.trans' (Keep.grow hg4); have hc4 := hb4.cell 4; clear hc3) | (go_at_call 74; refine (flatTexts_nil _).mono ?_; rintro e w5 ⟨rfl, hg5⟩; have hb5 := hb4.below hg5 hb4.lt; have hK5 : Keep (fun b => OwnS (xs 2) b) w w5 := hK4.trans' (Keep.grow hg5); have hc5 := hb5.cell 5; clear hc4) | (go_at_call 75; refine (flatBytes_nil _).mono ?_; rintro e w6 ⟨rfl, hg6⟩; have hb6 := hb5.below hg6 hb5.lt; have hK6 : Keep (fun b => OwnS (xs 2) b) w w6 := hK5.trans' (Keep.grow hg6); have hc6 := hb6.cell 6; clear hc5) | (go_at_call 76; refine (flatTruths_nil _).mono ?_; rintro e w7 ⟨rfl, hg7⟩; have hb7 := hb6.below hg7 hb6.lt; have hK7 : Keep (fun b => OwnS (xs 2) b) w w7 := hK6.trans' (Keep.grow hg7); have hc7 := hb7.cell 7; clear hc6) | (go_at_call 77; refine (flatNodes_nil _).mono ?_; rintro e w8 ⟨rfl, hg8⟩; have hb8 := hb7.below hg8 hb7.lt; have hK8 : Keep (fun b => OwnS (xs 2) b) w w8 := hK7.trans' (Keep.grow hg8); have hc8 := hb8.cell 8; clear hc7) | (go_at_call 78; refine (flatInsts_nil _).mono ?_; rintro e w9 ⟨rfl, hg9⟩; have hb9 := hb8.below hg9 hb8.lt; have hK9 : Keep (fun b => OwnS (xs 2) b) w w9 := hK8.trans' (Keep.grow hg9); have hc9 := hb9.cell 9; clear hc8) | (go_at_call 79; refine (flatQueries_nil _).mono ?_; rintro e w10 ⟨rfl, hg10⟩; have hb10 := hb9.below hg10 hb9.lt; have hK10 : Keep (fun b => OwnS (xs 2) b) w w10 := hK9.trans' (Keep.grow hg10); have hc10 := hb10.cell 10; clear hc9) | (go_at_call 80; refine (flatFiles_nil _).mono ?_; rintro e w11 ⟨rfl, hg11⟩; have hb11 := hb10.below hg11 hb10.lt; have hK11 : Keep (fun b => OwnS (xs 2) b) w w11 := hK10.trans' (Keep.grow hg11); have hc11 := hb11.cell 11; clear hc10) | (go_at_call 81; refine (flatDocs_nil _).mono ?_; rintro e w12 ⟨rfl, hg12⟩; have hb12 := hb11.below hg12 hb11.lt; have hK12 : Keep (fun b => OwnS (xs 2) b) w w12 := hK11.trans' (Keep.grow hg12); have hc12 := hb12.cell 12; clear hc11) | (go_at_call 82; refine (flatPlaces_nil _).mono ?_; rintro e w13 ⟨rfl, hg13⟩; have hb13 := hb12.below hg13 hb12.lt; have hK13 : Keep (fun b => OwnS (xs 2) b) w w13 := hK12.trans' (Keep.grow hg13); have hc13 := hb13.cell 13; clear hc12) | (go_at_call 83; refine (flatPostings_nil _).mono ?_; rintro e w14 ⟨rfl, hg14⟩; have hb14 := hb13.below hg14 hb13.lt; have hK14 : Keep (fun b => OwnS (xs 2) b) w w14 := hK13.trans' (Keep.grow hg14); have hc14 := hb14.cell 14; clear hc13) | (go_at_call 84; refine (flatShardRefs_any _ B Bt A14 m14 c14 (xs 14) N14 (hK14.own HT14.out (fun b hb hs => sep_rows HR2.out HT14.out (by decide) b hb hs)) (fun j v hv => by obtain ⟨L, hL⟩ := HR14.out j v hv; exact ⟨L, hK14.own hL (fun b hb hs => sep_rows HR2.out hL (by decide) b hb hs)⟩) Hd14.out (Nat.le_trans hB hK14.size) (by omega) HN14.out).mono ?_; rintro e w15 ⟨rfl, hk15⟩; have hb15 := hk15.blk hb14 hgS14; have hK15 : Keep (fun b => OwnS (xs 2) b ∨ OwnS (xs 14) b) w w15 := Keep.trans' (Keep.mono hK14 (fun j hj => Or.inl (Or.inl hj))) (Keep.mono hk15 (fun j hj => Or.inl (Or.inr hj))); have hc15 := hb15.cell 15; clear hc14) | (go_at_call 85; refine (flatManifests_any _ B Bt A15 m15 c15 (xs 15) N15 (hK15.own HT15.out (fun b hb hs => hs.elim (fun hs => sep_rows HR2.out HT15.out (by decide) b hb hs) (fun hs => sep_rows HR14.out HT15.out (by decide) b hb hs))) (fun j v hv => by obtain ⟨L, hL⟩ := HR15.out j v hv; exact ⟨L, hK15.own hL (fun b hb hs => hs.elim (fun hs => sep_rows HR2.out hL (by decide) b hb hs) (fun hs => sep_rows HR14.out hL (by decide) b hb hs))⟩) Hd15.out (Nat.le_trans hB hK15.size) (by omega) HN15.out).mono ?_; rintro e w16 ⟨rfl, hk16⟩; have hb16 := hk16.blk hb15 hgS15; have hK16 : Keep (fun b => OwnS (xs 2) b ∨ OwnS (xs 14) b ∨ OwnS (xs 15) b) w w16 := Keep.trans' (Keep.mono hK15 (fun j hj => Or.inl (hj.elim (fun h => Or.inl h) (fun h => Or.inr (Or.inl h))))) (Keep.mono hk16 (fun j hj => Or.inl (Or.inr (Or.inr hj)))); have hc16 := hb16.cell 16; clear hc15) | (go_at_call 86; refine (flatAsks_nil _).mono ?_; rintro e w17 ⟨rfl, hg17⟩; have hb17 := hb16.below hg17 hb16.lt; have hK17 : Keep (fun b => OwnS (xs 2) b ∨ OwnS (xs 14) b ∨ OwnS (xs 15) b) w w17 := hK16.trans' (Keep.grow hg17); have hc17 := hb17.cell 17; clear hc16) | (go_at_call 87; refine (flatHits_nil _).mono ?_; rintro e w18 ⟨rfl, hg18⟩; have hb18 := hb17.below hg18 hb17.lt; have hK18 : Keep (fun b => OwnS (xs 2) b ∨ OwnS (xs 14) b ∨ OwnS (xs 15) b) w w18 := hK17.trans' (Keep.grow hg18); have hc18 := hb18.cell 18; clear hc17) | (go_at_call 88; refine (flatAnswers_nil _).mono ?_; rintro e w19 ⟨rfl, hg19⟩; have hb19 := hb18.below hg19 hb18.lt; have hK19 : Keep (fun b => OwnS (xs 2) b ∨ OwnS (xs 14) b ∨ OwnS (xs 15) b) w w19 := hK18.trans' (Keep.grow hg19); have hc19 := hb19.cell 19; clear hc18) | (go_at_call 89; refine (flatParts_nil _).mono ?_; rintro e w20 ⟨rfl, hg20⟩; have hb20 := hb19.below hg20 hb19.lt; have hK20 : Keep (fun b => OwnS (xs 2) b ∨ OwnS (xs 14) b ∨ OwnS (xs 15) b) w w20 := hK19.trans' (Keep.grow hg20); have hc20 := hb20.cell 20; clear hc19) | (go_at_call 90; refine (flatChanges_nil _).mono ?_; rintro e w21 ⟨rfl, hg21⟩; have hb21 := hb20.below hg21 hb20.lt; have hK21 : Keep (fun b => OwnS (xs 2) b ∨ OwnS (xs 14) b ∨ OwnS (xs 15) b) w w21 := hK20.trans' (Keep.grow hg21); clear hc20))
 go_ret
 exact ⟨rfl, hK21⟩

structure MQ where
 lv : Value
 sv : Value
 gen : Int
 ts : List ShardM
 vs : List Value
structure OwnsM (B : Nat) (w : World) (q : MQ) : Prop where
 list : w.ownsRow B 24 2 q.lv 1 [.int .i64 q.gen, q.sv]
 own : ShardsOwn B w q.sv q.ts q.vs
theorem OwnsM.grow {B : Nat} {w w1 : World} {q : MQ} (h : OwnsM B w q) (hg : Grow w w1) : OwnsM B w1 q := ⟨own_below h.list hg, h.own.grow hg⟩
def bagMs (ps : List MQ) (i : Nat) : List Value := if i = 15 then ps.map (·.lv) else if i = 14 then ps.map (·.sv) else if i = 2 then ps.flatMap (·.vs) else []
theorem bagMs_succ (ps : List MQ) (p : MQ) : maniXs (bagMs ps) p.lv p.sv p.vs 1 = bagMs (ps ++ [p]) := by
 funext j
 show upd (upd (upd (bagMs ps) 15 (bagMs ps 15 ++ [p.lv])) 14 (bagMs ps 14 ++ [p.sv])) 2 (bagMs ps 2 ++ p.vs) j = _
 by_cases h2 : j = 2
 ·subst h2
  rw [upd_self]
  simp [bagMs]
 ·rw [upd_ne _ _ h2]
  by_cases h14 : j = 14
  ·subst h14
   rw [upd_self]
   simp [bagMs]
  ·rw [upd_ne _ _ h14]
   by_cases h15 : j = 15
   ·subst h15
    rw [upd_self]
    simp [bagMs]
   ·rw [upd_ne _ _ h15]
    simp [bagMs, h2, h14, h15]
theorem zip_shards : ∀ (l : List (ShardM × Value)) (j : Nat) (p : ShardM × Value), l[j]? = some p → ∀ (i : Nat) (u : Value), [Value.int .i64 p.1.num, .int .i64 p.1.size, .int .u32 (p.1.sum.toNat : Int), p.2][i]? = some u → (l.flatMap fun p => [Value.int .i64 p.1.num, .int .i64 p.1.size, .int .u32 (p.1.sum.toNat : Int), p.2])[j * 4 + i]? = some u
 | [], j, p, h, _, _, _ => by simp at h
 | a :: r, 0, p, h, i, u, hu => by
  obtain rfl : a = p := by simpa using h
  have hi : i < 4 := by have := (List.getElem?_eq_some_iff.1 hu).1; simpa using this
  rw [List.flatMap_cons, List.getElem?_append_left (by simp; omega), Nat.zero_mul, Nat.zero_add]
  exact hu
 | a :: r, j + 1, p, h, i, u, hu => by
  rw [List.flatMap_cons, List.getElem?_append_right (by simp; omega)]
  have := zip_shards r j p (by simpa using h) i u hu
  simp only [List.length_cons, List.length_nil]
  rw [show (j + 1) * 4 + i - (0 + 1 + 1 + 1 + 1) = j * 4 + i by omega]
  exact this
theorem each_dead {B : Nat} {w : World} : ∀ {ps : List MQ}, (∀ p ∈ ps, OwnsM B w p) → ∀ (j : Nat) (x : Value), (ps.flatMap (·.vs))[j]? = some x → ∃ t, (ps.flatMap (·.ts))[j]? = some t ∧ w.ownsRow B 3 1 x t.dead.length (t.dead.map i64v)
 | [], _, j, x, hx => by simp at hx
 | p :: r, h, j, x, hx => by
  have hp := (h p (by simp)).own
  rw [List.flatMap_cons] at hx ⊢
  by_cases hj : j < p.vs.length
  ·rw [List.getElem?_append_left hj] at hx
   rw [List.getElem?_append_left (by rw [← hp.len]; exact hj)]
   exact ⟨_, List.getElem?_eq_getElem (by rw [← hp.len]; exact hj), hp.each j x _ hx (List.getElem?_eq_getElem (by rw [← hp.len]; exact hj))⟩
  ·rw [List.getElem?_append_right (by omega)] at hx
   rw [List.getElem?_append_right (by rw [← hp.len]; omega), ← hp.len]
   exact each_dead (fun q hq => h q (by simp [hq])) _ x hx
theorem len_dead : ∀ {ps : List MQ} {p : MQ}, p ∈ ps → p.vs.length ≤ (ps.flatMap (·.vs)).length
 | [], _, h => by cases h
 | a :: r, p, h => by
  rw [List.flatMap_cons, List.length_append]
  rcases List.mem_cons.1 h with rfl | h
  ·omega
  ·have := len_dead h
   omega

set_option maxRecDepth 100000 in
set_option maxHeartbeats 4000000 in
theorem ApartManifests_any (w : World) (B Bw : Nat) (A : Option Addr) (m c : Nat) (ps : List MQ) (hR : ReadsAt w Bw 1 A m (ps.map (·.lv))) (hBw : Bw ≤ w.heap.size) (hV : ∀ p ∈ ps, OwnsM B w p) (hd : DistV (ps.map (·.lv))) (hd2 : DistV (ps.map (·.sv))) (hd3 : DistV (ps.flatMap (·.vs)))
  (hB : B ≤ w.heap.size) (hm : m ≤ 1000) (hN : (ps.flatMap (·.vs)).length ≤ 100000) (hb : ∀ p ∈ ps, ∀ t ∈ p.ts, t.dead.length ≤ 1000000) :
  Calls Tryz.prog 21 #[.slice A m c] w fun e w' => e = .returned (.bool true) ∧ Keep (fun b => OwnS (ps.flatMap (·.vs)) b ∨ OwnS (ps.map (·.sv)) b ∨ OwnS (ps.map (·.lv)) b) w w' := by
 have hpl : ps.length = m := by have := hR.1; simpa using this
 have Hpl := Lib.hid hpl
 have HV := Lib.hid hV
 have Hd := Lib.hid hd
 have Hd2 := Lib.hid hd2
 have Hd3 := Lib.hid hd3
 have HN := Lib.hid hN
 have Hb := Lib.hid hb
 have hI0 : ∃ tabs, BagAt (w.alloc (.cells (bagF fun _ => .slice none 0 0) 93)) w.heap.size w.heap.size tabs (bagMs (ps.take 0)) ∧ Grow w (w.alloc (.cells (bagF fun _ => .slice none 0 0) 93)) :=
  ⟨_, by rw [show bagMs (ps.take 0) = fun _ => [] by funext j; simp [bagMs]]; exact BagAt.new w, Grow.alloc _ _⟩
 have HI0 := Lib.hid hI0
 clear hpl hV hd hd2 hd3 hN hb hI0
 go_enter Tryz.func21, Tryz.ntmps21
 go_wp2_with fail
 go_loopw [4] (fun v4 wr => ∃ k : Nat, k ≤ m ∧ v4 = .int .i64 (k : Int) ∧ Hid (∃ tabs, BagAt wr w.heap.size w.heap.size tabs (bagMs (ps.take k)) ∧ Grow w wr)) (fun v4 _ => m - (intOf v4).toNat)
 case atStart => exact ⟨0, by omega, rfl, HI0⟩
 case round =>
  clear HI0
  obtain ⟨k, hk, rfl, hI⟩ := hrel
  obtain ⟨tabs, hbag, hg⟩ := hI.out
  have hgz := hg.size
  by_cases hlt : k < m
  ·obtain ⟨p, hp⟩ : ∃ p, ps[k]? = some p := ⟨_, List.getElem?_eq_getElem (by rw [Hpl.out]; exact hlt)⟩
   obtain ⟨b, off, rfl, hbB, hcl⟩ := hR.2 (by omega)
   have hpm : p ∈ ps := List.mem_of_getElem? hp
   have hcv : wr.cell? ⟨b, off + k, none⟩ = some p.lv := (hg.cell (p := ⟨b, off + k, none⟩) (by show b < w.heap.size; omega)).trans (hcl k p.lv (by rw [List.getElem?_map, hp]; rfl))
   have hO := (HV.out p hpm).grow hg
   have hOw := HV.out p hpm
   have hP := hO.own
   obtain ⟨A1, c1, e1, -, -, -⟩ := own_reads hP.own
   obtain ⟨lb, cl, el, -, -, -, -⟩ := own_slice hO.list (by omega)
   obtain ⟨n, hn⟩ : ∃ n, n = p.ts.length := ⟨_, rfl⟩
   rw [← hn] at e1
   have hlb : lb < w.heap.size := (hOw.list.lt lb (by rw [el]; rfl)).2
   have hlr : wr.rangeAt lb 0 [.int .i64 p.gen, .slice A1 n c1] := fun i u hu => by
    have h7 := hO.list
    rw [el, e1] at h7
    have hi : i < 1 * 2 := by have := (List.getElem?_eq_some_iff.1 hu).1; simpa using this
    rw [Nat.zero_add, h7.cellAt i hi]
    exact hu
   rw [el] at hcv
   have hxk : bagMs (ps.take k ++ [p]) = bagMs (ps.take (k + 1)) := by rw [List.take_add_one, hp]; rfl
   have h5 : (bagMs (ps.take k) 2).length + n ≤ 100000 := by
    have h1 : (bagMs (ps.take k) 2).length + p.vs.length = ((ps.take (k + 1)).flatMap (·.vs)).length := by
     rw [List.take_add_one, hp]
     simp [bagMs]
    rw [hP.len, ← hn] at h1
    have h2 : (ps.take (k + 1)).flatMap (·.vs) <+: ps.flatMap (·.vs) := by
     have h3 : ps.flatMap (·.vs) = (ps.take (k + 1)).flatMap (·.vs) ++ (ps.drop (k + 1)).flatMap (·.vs) := by rw [← List.flatMap_append, List.take_append_drop]
     rw [h3]
     exact List.prefix_append _ _
    have h4 := h2.length_le
    have := HN.out
    omega
   have h14 : (bagMs (ps.take k) 14).length ≤ 1000000 := by simp [bagMs]; omega
   have h15 : (bagMs (ps.take k) 15).length ≤ 1000000 := by simp [bagMs]; omega
   have hcall := putManifests_bag wr w.heap.size w.heap.size tabs (bagMs (ps.take k)) lb cl p.gen A1 n c1 ((p.ts.zip p.vs).map fun q => ((q.1.num, q.1.size, (q.1.sum.toNat : Int)), q.2)) hbag ⟨hlb, hlr⟩ (fun j q hq => by
    rw [List.getElem?_map, Option.map_eq_some_iff] at hq
    obtain ⟨⟨t, x⟩, hz, rfl⟩ := hq
    obtain ⟨h1, h2⟩ := List.getElem?_zip_eq_some.1 hz
    obtain ⟨A2, c2, e2, -⟩ := own_reads (hP.each j x t h2 h1)
    exact ⟨A2, _, c2, e2⟩) (by rw [List.length_map, List.length_zip, hP.len, Nat.min_self, hn]) (fun j q hq => by
    rw [List.getElem?_map, Option.map_eq_some_iff] at hq
    obtain ⟨⟨t, x⟩, hz, rfl⟩ := hq
    have hjl : j < n := by
     have := (List.getElem?_eq_some_iff.1 hz).1
     rw [List.length_zip] at this
     omega
    have hown := hOw.own.own
    rw [e1, ← hn] at hown
    obtain ⟨b1, cap1, e3, -, -, -⟩ := own_slice hown (by omega)
    injection e3 with e3 e4 e5
    refine ⟨b1, 0, e3, ?_, fun i u hu => ?_⟩
    ·rw [e3] at hown
     exact (hown.lt b1 rfl).2
    ·have hown2 := hP.own
     rw [e1, ← hn, e3] at hown2
     have h9 := zip_shards _ j (t, x) hz i u hu
     have hi2 : j * 4 + i < n * 4 := by
      have h7 : i < 4 := (List.getElem?_eq_some_iff.1 hu).1
      omega
     rw [Nat.zero_add, hown2.cellAt _ (by omega)]
     exact h9) (by omega) h14 h15 hgz
   rw [show ((p.ts.zip p.vs).map fun q => ((q.1.num, q.1.size, (q.1.sum.toNat : Int)), q.2)).map (fun q => q.2) = p.vs by
    rw [List.map_map]
    exact List.map_snd_zip (by rw [hP.len]; exact Nat.le_refl _), ← e1, ← el, bagMs_succ, hxk, el] at hcall
   have Hcall := Lib.hid hcall
   clear hcall hbag hcl hI hP hO hOw hlr hxk h5 h14 h15 hp e1 el hn
   go_wp2_with fail
   refine Hcall.out.mono ?_
   rintro e w2 ⟨rfl, ⟨tabs2, hb2⟩, hl2⟩
   have HI2 := Lib.hid (show ∃ tabs, BagAt w2 w.heap.size w.heap.size tabs (bagMs (ps.take (k + 1))) ∧ Grow w w2 from ⟨tabs2, hb2, Below.trans hg hl2⟩)
   clear hb2 hl2
   go_wp2
   go_roundw
   case rel => exact ⟨k + 1, by omega, by go_num, HI2⟩
   case measure => simp [intOf]; omega
  ·obtain rfl : m = k := by omega
   rw [List.take_of_length_le (by rw [Hpl.out]; exact Nat.le_refl _)] at hbag
   have e2 : bagMs ps 2 = ps.flatMap (·.vs) := rfl
   have e14 : bagMs ps 14 = ps.map (·.sv) := rfl
   have e15 : bagMs ps 15 = ps.map (·.lv) := rfl
   have hcall := apart_Manis wr w.heap.size B w.heap.size tabs (bagMs ps) hbag (fun i hi => by
    have h1 : i ≠ 2 := fun h => by subst h; cases hi
    have h2 : i ≠ 14 := fun h => by subst h; cases hi
    have h3 : i ≠ 15 := fun h => by subst h; cases hi
    simp [bagMs, h1, h2, h3]) (Nat.le_trans hB hgz) (fun j => (((ps.flatMap (·.ts))[j]?).map (·.dead.length)).getD 0) (fun j x hx => by
     obtain ⟨t, ht, ho⟩ := each_dead (fun p hp => (HV.out p hp).grow hg) j x hx
     simp only [ht, Option.map_some, Option.getD_some]
     exact ⟨_, ho⟩) Hd3.out HN.out (fun j => by
     cases ht : (ps.flatMap (·.ts))[j]? with
     | none => simp
     | some t =>
      simp only [Option.map_some, Option.getD_some]
      obtain ⟨p, hp, htp⟩ := List.mem_flatMap.1 (List.mem_of_getElem? ht)
      exact Hb.out p hp t htp) (fun j => ((ps[j]?).map (·.ts.length)).getD 0) (fun j x hx => by
     rw [e14, List.getElem?_map, Option.map_eq_some_iff] at hx
     obtain ⟨p, hp, rfl⟩ := hx
     simp only [hp, Option.map_some, Option.getD_some]
     exact ⟨_, ((HV.out p (List.mem_of_getElem? hp)).grow hg).own.own⟩) Hd2.out (by rw [e14, List.length_map, Hpl.out]; omega) (fun j => by
     cases hp : ps[j]? with
     | none => simp
     | some p =>
      simp only [Option.map_some, Option.getD_some]
      have h1 := (HV.out p (List.mem_of_getElem? hp)).own.len
      have h2 : p.vs.length ≤ (ps.flatMap (·.vs)).length := len_dead (List.mem_of_getElem? hp)
      have := HN.out
      omega) (fun _ => 1) (fun j x hx => by
     rw [e15, List.getElem?_map, Option.map_eq_some_iff] at hx
     obtain ⟨p, hp, rfl⟩ := hx
     exact ⟨_, ((HV.out p (List.mem_of_getElem? hp)).grow hg).list⟩) Hd.out (by rw [e15, List.length_map, Hpl.out]; omega) (fun _ => by decide)
   have Hcall := Lib.hid hcall
   clear hcall hbag hI
   go_wp2_with fail
   refine Hcall.out.mono ?_
   rintro e w3 ⟨rfl, hk3⟩
   go_wp2
   go_ret
   exact ⟨rfl, Keep.trans' (Keep.grow hg) hk3⟩
end Go.Proofs.YtcimkoehcdfjdaaGreatDoor
