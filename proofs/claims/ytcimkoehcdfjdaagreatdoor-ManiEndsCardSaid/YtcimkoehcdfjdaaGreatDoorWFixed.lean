/-
  The walk of wire's Writer.Fixed.
-/
import Derived.Test.YtcimkoehcdfjdaaGreatDoorBaseD
import Derived.Test.YtcimkoehcdfjdaaGreatDoorBaseE
import Derived.Deep.LoopGhost
import Derived.Deep.QuietTactic
import Derived.BigQuiet
import Derived.WalkMore
import Derived.IntWalk
import Derived.Laws.Shifts
import Derived.Test.YtcimkoehcdfjdaaGreatDoorRange
import Derived.Test.YtcimkoehcdfjdaaGreatDoorMarks
import Derived.Shelf.Abstract
import Derived.Shelf.RegionOpen
import Derived.OwnWalkIn
import Derived.TacticsInMore
import Derived.LoopNIn
import Derived.LoopIn
import Derived.Test.YtcimkoehcdfjdaaGreatDoorBaseC
import Derived.Deep.DeepCutAuto
import Derived.Deep.CutRange
import Derived.StillTailTactics
import Derived.BigRegion
import Derived.Great.Walk
namespace Go.Proofs.YtcimkoehcdfjdaaGreatDoor
open Go.RowKit WireM

def fourB (x : BitVec 32) : List UInt8 := [UInt8.ofNat x.toNat, UInt8.ofNat (x.toNat / 256), UInt8.ofNat (x.toNat / 65536), UInt8.ofNat (x.toNat / 16777216)]
theorem fourB_at (x : BitVec 32) (k : Nat) (hk : k < 4) : (fourB x)[k]? = some (UInt8.ofNat (x.toNat / 2 ^ (8 * k))) := by
 match k, hk with
 | 0, _ | 1, _ | 2, _ | 3, _ => simp [fourB]
theorem fourB_take (x : BitVec 32) (k : Nat) (hk : k < 4) : (fourB x).take (k + 1) = (fourB x).take k ++ [UInt8.ofNat (x.toNat / 2 ^ (8 * k))] := by
 rw [List.take_add_one, fourB_at x k hk]
 rfl

set_option maxRecDepth 100000 in
set_option maxHeartbeats 4000000 in
theorem WFixed_any (w : World) (B g : Nat) (v : Value) (l : List UInt8) (bad : Bool) (x : BitVec 32) (hW : Wr 67 w B g v l bad) (hl : l.length + 4 ≤ 140737488355328) :
  Calls Tryz.prog 33 #[.pointer (some ⟨g, 0, none⟩), .int .u32 (x.toNat : Int)] w fun e w' => e = .returned (.tuple #[]) ∧ ∃ v', Wr 67 w' B g v' (l ++ fourB x) bad ∧ Foot w g v w' v' := by
 have bytesTy : AppTy Tryz.prog 28 5 (.int .u8 0) 1 1 := AppTy.mk' Tryz.underlying28 (by kernel_rfl) rfl (by decide)
 have hT : 67 ≠ 5 := by decide
 go_enter Tryz.func33, Tryz.ntmps33
 go_wp2_with (go_at_call 63; refine (Rev32_any _ _).mono ?_; rintro e w1 ⟨rfl, rfl⟩)
 go_loopw [5] (fun v5 wr => ∃ (k : Nat) (v1 : Value), k ≤ 4 ∧ v5 = .int .i64 (24 - 8 * (k : Int)) ∧ Wr 67 wr B g v1 (l ++ (fourB x).take k) bad ∧ Foot w g v wr v1) (fun v5 _ => (intOf v5 + 8).toNat)
 case atStart => exact ⟨0, v, by omega, rfl, by simpa using hW, Foot.refl _ _ _⟩
 case round =>
  obtain ⟨k, v1, hk, rfl, hW1, hF1⟩ := hrel
  by_cases hlt : k < 4
  ·obtain ⟨L, hL⟩ : ∃ L, L = l ++ (fourB x).take k := ⟨_, rfl⟩
   have hLl : L.length + 1 ≤ 140737488355328 := by rw [hL, List.length_append, List.length_take]; simp [fourB]; omega
   rw [← hL] at hW1
   obtain ⟨y, hy⟩ : ∃ y, y = UInt8.ofNat (x.toNat / 2 ^ (8 * k)) := ⟨_, rfl⟩
   have HL := Lib.hid hL
   have Hy := Lib.hid hy
   have Hb := Lib.hid (show ((rev4 x).toNat : Int) / 2 ^ (24 - 8 * k) % 256 = (y.toNat : Int) by
    have h := rev4_at x (3 - k) (by omega)
    rw [show 8 * (3 - k) = 24 - 8 * k by omega, show 24 - (24 - 8 * k) = 8 * k by omega] at h
    rw [hy, UInt8.toNat_ofNat', ← h]
    simp)
   clear hL hy
   go_upto_region 4 with (fail)
   rename_i KK hKK
   refine wp_region_stages (by kernel_rfl) ?_
   refine anyOrder_start [10, 13] (Keep (FootS g v1)) (appW 67 B g v1 L bad wr [y]) (FactsOn [.is (.pointer (some ⟨g, 0, none⟩)), .is (.pointer (some ⟨g, 0, none⟩)), .is (.pointer (some ⟨g, 0, none⟩)), .is (.pointer (some ⟨g, 0, none⟩)), .is (v1), .is (.int .u32 ((rev4 x).toNat : Int)), .is (.int .i64 (24 - 8 * (k : Int))), .is (.int .u32 ((rev4 x).toNat / 2 ^ (24 - 8 * k) : Nat)), .is (.int .u8 (y.toNat : Int)), .new1 wr.heap.size (Wr.lt hW1) 5 (.int .u8 (y.toNat : Int)), .any, .is (.pointer (some ⟨g, 0, none⟩)), .is (.pointer (some ⟨g, 0, none⟩)), .any]) (fun i => if i = 4 then 0 else 99) keep_trans keep_grow (appW.grow) (factsOn_mono _) (by kernel_rfl) (by kernel_rfl) ⟨hW1, Foot.refl _ _ _⟩ ?_ ?_
   ·refine ⟨?_, ?_, ?_, ?_, ?_, ?_, ?_, ?_, ?_, ?_, ?_, ?_, ?_, ?_, trivial⟩
    ·refine sF rfl rfl ?_
     intro us vals w3 a' ha hle hW hd hv K hK
     have q0 : a'.tmps[0]? = some (.pointer (some ⟨g, 0, none⟩)) := by rw [ha.out]; kernel_rfl
     exact sV hK rfl
    ·refine sF rfl rfl ?_
     intro us vals w3 a' ha hle hW hd hv K hK
     have q0 : a'.tmps[0]? = some (.pointer (some ⟨g, 0, none⟩)) := by rw [ha.out]; kernel_rfl
     exact sV hK rfl
    ·refine sF rfl rfl ?_
     intro us vals w3 a' ha hle hW hd hv K hK
     obtain ⟨d1, _⟩ := hd
     have q15 : a'.tmps[15]? = some (us 1) := by rw [ha.out]; kernel_rfl
     rw [show us 1 = .pointer (some ⟨g, 0, none⟩) from d1] at q15
     exact sV (v := .pointer (some ⟨g, 0, none⟩)) hK rfl
    ·refine sF rfl rfl ?_
     intro us vals w3 a' ha hle hW hd hv K hK
     obtain ⟨d2, _⟩ := hd
     have q16 : a'.tmps[16]? = some (us 2) := by rw [ha.out]; kernel_rfl
     rw [show us 2 = .pointer (some ⟨g, 0, none⟩) from d2] at q16
     exact sV (v := .pointer (some ⟨g, 0, none⟩)) hK rfl
    ·refine sF rfl rfl ?_
     intro us vals w3 a' ha hle hW hd hv K hK
     obtain ⟨d3, _⟩ := hd
     obtain rfl := List.eq_nil_of_length_eq_zero (Nat.le_zero.1 (show vals.length ≤ 0 from hv))
     have q17 : a'.tmps[17]? = some (us 3) := by rw [ha.out]; kernel_rfl
     rw [show us 3 = .pointer (some ⟨g, 0, none⟩) from d3] at q17
     have hc := (hW.1.cell).cell 0
     exact sV (v := v1) hK rfl
    ·refine sF rfl rfl ?_
     intro us vals w3 a' ha hle hW hd hv K hK
     have q4 : a'.tmps[4]? = some (.int .u32 ((rev4 x).toNat : Int)) := by rw [ha.out]; kernel_rfl
     exact sV hK rfl
    ·refine sF rfl rfl ?_
     intro us vals w3 a' ha hle hW hd hv K hK
     have q5 : a'.tmps[5]? = some (.int .i64 (24 - 8 * (k : Int))) := by rw [ha.out]; kernel_rfl
     exact sV hK rfl
    ·refine sF rfl rfl ?_
     intro us vals w3 a' ha hle hW hd hv K hK
     obtain ⟨d5, d6, _⟩ := hd
     have q19 : a'.tmps[19]? = some (us 5) := by rw [ha.out]; kernel_rfl
     rw [show us 5 = .int .u32 ((rev4 x).toNat : Int) from d5] at q19
     have q20 : a'.tmps[20]? = some (us 6) := by rw [ha.out]; kernel_rfl
     rw [show us 6 = .int .i64 (24 - 8 * (k : Int)) from d6] at q20
     refine step_value (v := .int .u32 ((rev4 x).toNat / 2 ^ (24 - 8 * k) : Nat)) (w2 := w3) ?_ (hK _ _ (Grow.refl _) rfl)
     go_simp
     rw [show (24 - 8 * (k : Int)).toNat = 24 - 8 * k by omega]
    ·refine sF rfl rfl ?_
     intro us vals w3 a' ha hle hW hd hv K hK
     obtain ⟨d7, _⟩ := hd
     have q21 : a'.tmps[21]? = some (us 7) := by rw [ha.out]; kernel_rfl
     rw [show us 7 = .int .u32 ((rev4 x).toNat / 2 ^ (24 - 8 * k) : Nat) from d7] at q21
     refine step_value (v := .int .u8 (y.toNat : Int)) (w2 := w3) ?_ (hK _ _ (Grow.refl _) rfl)
     go_simp
     exact Hb.out
    ·refine sF rfl rfl ?_
     intro us vals w3 a' ha hle hW hd hv K hK
     obtain ⟨d8, _⟩ := hd
     have q22 : a'.tmps[22]? = some (us 8) := by rw [ha.out]; kernel_rfl
     rw [show us 8 = .int .u8 (y.toNat : Int) from d8] at q22
     refine step_value (v := .slice (some ⟨w3.heap.size, 0, none⟩) 1 1) (w2 := w3.alloc (.cells #[.int .u8 (y.toNat : Int)] 5)) (by go_simp) (hK _ _ (Grow.alloc _ _) ?_)
     exact ⟨_, rfl, hle.size, Blk.new _ _ _⟩
    ·refine stageOf_mem (t := 0) rfl ?_
     intro us vals w3 a' ha hle hW hd hv
     obtain ⟨d4, ⟨m9, u9, z9, b9⟩, _⟩ := hd
     obtain rfl := List.eq_nil_of_length_eq_zero (Nat.le_zero.1 (show vals.length ≤ 0 from Nat.le_of_eq hv))
     refine ⟨wanted_none rfl, fun K hK => ?_⟩
     have q18 : a'.tmps[18]? = some (us 4) := by rw [ha.out]; kernel_rfl
     rw [show us 4 = v1 from d4] at q18
     have q23 : a'.tmps[23]? = some (us 9) := by rw [ha.out]; kernel_rfl
     rw [u9] at q23
     have hB := Nat.le_trans hW.1.base (Nat.le_of_lt hW.1.cell.lt)
     refine wp_append_reads w3 (.tmp 18) (.tmp 23) rfl bytesTy (evalT q18) hW.1.own (evalT q23) b9.reads1 (by simp [Value.oneCell']) (by simp only [maxLen]; omega) (by omega) hB ?_
     intro v2 w4 ho hg hat
     have h2 := hW.app (news := [y]) hT ho hg hat
     exact hK _ _ h2.1 h2.2
    ·refine sF rfl rfl ?_
     intro us vals w3 a' ha hle hW hd hv K hK
     obtain ⟨d0, _, _, _, _, _, _, _, _, _, _, _, _⟩ := hd
     have q14 : a'.tmps[14]? = some (us 0) := by rw [ha.out]; kernel_rfl
     rw [show us 0 = .pointer (some ⟨g, 0, none⟩) from d0] at q14
     exact sV (v := .pointer (some ⟨g, 0, none⟩)) hK rfl
    ·refine sF rfl rfl ?_
     intro us vals w3 a' ha hle hW hd hv K hK
     obtain ⟨d11, _, _, _, _, _, _, _, _, _, _, _, _⟩ := hd
     have q25 : a'.tmps[25]? = some (us 11) := by rw [ha.out]; kernel_rfl
     rw [show us 11 = .pointer (some ⟨g, 0, none⟩) from d11] at q25
     exact sV (v := .pointer (some ⟨g, 0, none⟩)) hK rfl
    ·refine stageOf_mem (t := 1) rfl ?_
     intro us vals w3 a' ha hle hW hd hv
     obtain ⟨d12, d10, _, _, _, _, _, _, _, _, _, _, _, _, _⟩ := hd
     obtain ⟨x0, rfl⟩ := List.length_eq_one_iff.1 hv
     obtain rfl : us 10 = x0 := by have h0 : some x0 = some (us 10) := d10; injection h0 with h0; exact h0.symm
     refine ⟨wanted_none rfl, fun K hK => ?_⟩
     have q26 : a'.tmps[26]? = some (us 12) := by rw [ha.out]; kernel_rfl
     rw [show us 12 = .pointer (some ⟨g, 0, none⟩) from d12] at q26
     have q24 : a'.tmps[24]? = some (us 10) := by rw [ha.out]; kernel_rfl
     obtain ⟨A5, c5, e5, -⟩ := own_reads hW.own
     have h2 := hW.store undef
     have hf := hW.cell.frozen 0
     have hl := hW.cell.cell 0
     rw [e5] at q24
     refine step_skip (w2 := w3.setCell ⟨g, 0, none⟩ (us 10)) ?_ (hK _ _ h2.1 h2.2)
     rw [e5]
     go_simp
   ·intro us vals w3 hle hvl hV _ _
    obtain ⟨x1, x2, rfl⟩ : ∃ x1 x2, vals = [x1, x2] := by
     match vals, hvl with
     | [a, b], _ => exact ⟨a, b, rfl⟩
    obtain ⟨hW2, hF2⟩ := hV
    generalize ha2 : fills _ _ _ _ = a2
    obtain rfl : a2 = { tmps := #[.pointer (some ⟨g, 0, none⟩), .int .u32 (x.toNat : Int), undef, undef, .int .u32 ((rev4 x).toNat : Int), .int .i64 (24 - 8 * (k : Int)), .pointer (some ⟨g, 0, none⟩), .bool false, .int .u32 (x.toNat : Int), .int .u32 ((rev4 x).toNat : Int), .int .i64 (24 - 8 * (k : Int)), .bool (decide (8 * (k : Int) ≤ 24)), u12, u13, us 0, us 1, us 2, us 3, us 4, us 5, us 6, us 7, us 8, us 9, us 10, us 11, us 12], defers := [] } := by rw [← ha2]; kernel_rfl
    clear ha2
    refine hKK _ _ ?_
    go_wp2
    go_roundw
    case rel => exact ⟨k + 1, x1, by omega, by go_num, by rw [fourB_take x k hlt, ← List.append_assoc, ← HL.out, ← Hy.out]; exact hW2, hF1.trans hF2⟩
    case measure => simp [intOf]; omega
  ·obtain rfl : k = 4 := by omega
   go_wp2
   (try simp only [Exit.inBlock, Exit.then])
   refine Go.Great.bodyPost_end0 rfl rfl ?_
   exact ⟨rfl, v1, by simpa [fourB] using hW1, hF1⟩
end Go.Proofs.YtcimkoehcdfjdaaGreatDoor
