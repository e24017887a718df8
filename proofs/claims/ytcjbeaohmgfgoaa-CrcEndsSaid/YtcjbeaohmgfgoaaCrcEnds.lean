/-
  The walk of mudlarklaw01.CrcEnds.
-/
import Derived.Test.YtcjbeaohmgfgoaaCut
import Derived.Test.YtcjbeaohmgfgoaaCrcAwake
import Derived.Test.YtcjbeaohmgfgoaaCrcEnds1
import Derived.Deep.DeepCutAuto
import Derived.Deep.CutRange
namespace Go.Proofs.Ytcjbeaohmgfgoaa
open Go.RowKit CrcM

theorem upd_seven : ((upd 7#32 []).toNat : Int) = 7 := by decide +kernel

/-- the row that grows: up to 70 bytes -/
def endRow (k : Nat) : List UInt8 := (List.range (min k 70)).map fun j => UInt8.ofNat (j * 37)
theorem endRow_len (k : Nat) : (endRow k).length = min k 70 := by simp [endRow]
theorem endRow_succ (k : Nat) (h : k < 70) : endRow (k + 1) = endRow k ++ [UInt8.ofNat (k * 37)] := by
  have e1 : min (k + 1) 70 = k + 1 := by omega
  have e2 : min k 70 = k := by omega
  simp [endRow, e1, e2, List.range_succ]
theorem endRow_stop (k : Nat) (h : 70 ≤ k) : endRow (k + 1) = endRow k := by
  have e1 : min (k + 1) 70 = 70 := by omega
  have e2 : min k 70 = 70 := by omega
  simp [endRow, e1, e2]

/-- what holds at the head of the loop -/
structure EndInv (w : World) (k : Nat) (v : Value) (wr : World) : Prop where
  own : wr.ownsRow w.heap.size 5 1 v (min k 70) ((endRow k).map b8)
  below : Below w.heap.size w wr

set_option maxRecDepth 100000 in
set_option maxHeartbeats 4000000 in
theorem ends_walk (w : World) : Calls Try.prog 6 #[] w fun e w' => e = .returned (.bool true) ∧ Below w.heap.size w w' := by
  have bytesTy : AppTy Try.prog 22 5 (.int .u8 0) 1 1 := AppTy.mk' Try.underlying22 (by kernel_rfl) rfl (by decide)
  have hneq := fun W => run_neq_row (P := Try.prog) (t := 36) (e := 23) (len := 256) (k := .u32) Try.underlying36 Try.underlying23 (by kernel_rfl) (by kernel_rfl) tabV (fun i hi => ⟨_, tabV_get i hi⟩) W
  go_enter Try.func6, Try.ntmps6
  go_wp2_with (first | (go_at_call 21; refine (Table_any _).mono ?_; rintro e w1 ⟨rfl, hb1⟩) | (go_at_call 22; refine (rTable_any _).mono ?_; rintro e w2 ⟨rfl, hb2⟩))
  have hb0 : Below w.heap.size w w2 := hb1.trans (hb2.mono hb1.size)
  clear hneq
  go_loopw [1, 2] (fun v1 v2 wr => ∃ k : Nat, k ≤ 256 ∧ v2 = .int .i64 (k : Int) ∧ EndInv w k v1 wr) (fun _ v2 _ => 256 - (intOf v2).toNat)
  case atStart => exact ⟨0, by omega, rfl, by simpa [endRow] using World.ownsRow_nil _ _ _ _, hb0⟩
  case round =>
    clear hb1 hb2 hb0
    obtain ⟨k, hk, rfl, hI⟩ := hrel
    by_cases hlt : k < 256
    · obtain ⟨x, rfl⟩ : ∃ x : UInt8, k = x.toNat := ⟨UInt8.ofNat k, by rw [UInt8.toNat_ofNat', Nat.mod_eq_of_lt hlt]⟩
      obtain ⟨A1, c1, rfl, hmc, hcm, hrd⟩ := own_reads hI.own
      obtain ⟨m1, hm1⟩ : ∃ m, m = min x.toNat 70 := ⟨_, rfl⟩
      obtain ⟨L, hL⟩ : ∃ L, L = endRow x.toNat := ⟨_, rfl⟩
      have hmc' := hmc
      have hrd' : BytesAt wr wr.heap.size A1 m1 L := by rw [hm1, hL]; exact hrd
      rw [← hm1] at hmc
      have hown := hI.own
      rw [← hm1, ← hL] at hown
      rw [← hm1]
      have hbw := hI.below
      have Hm1 := Lib.hid hm1
      have HL := Lib.hid hL
      obtain ⟨y, hy⟩ : ∃ y : UInt8, y = 255 ^^^ x := ⟨_, rfl⟩
      have Hy := Lib.hid (show bits BinOp.xor IntKind.u8 IntKind.u8.max (x.toNat : Int) = (y.toNat : Int) by rw [hy]; exact not_u8 x)
      obtain ⟨s, hs⟩ : ∃ s : W32, s.toNat = x.toNat * 16777216 := ⟨BitVec.ofNat 32 (x.toNat * 16777216), by rw [BitVec.toNat_ofNat, Nat.mod_eq_of_lt (by omega)]⟩
      have Hs := Lib.hid (show ((x.toNat : Int) * 16777216) = (s.toNat : Int) by rw [hs]; omega)
      clear hI hmc' hrd hm1 hL hy hs
      go_upto_region 8 with (fail)
      go_cut [50] from 13 to 50 (fun v50 wx => v50 = .bool false ∧ Grow wr wx)
      case first Jx Kx hJ hM =>
          refine wp_region_plain_facts (Facts [.is (.int .u8 (x.toNat : Int)), .bytes [x], .rows [[x]], .is (.int .u32 ((sum [x]).toNat : Int)), .is (.int .u8 (x.toNat : Int)), .bytes [x], .is (.int .u32 ((sum [x]).toNat : Int)), .is (.bool false), .is (.bool false), .is (.int .u8 (x.toNat : Int)), .bytes [x], .is (.int .u8 (x.toNat : Int)), .is (.int .u8 (y.toNat : Int)), .bytes [y], .rows [[x], [], [y]], .is (.int .u32 ((sum [x, y]).toNat : Int)), .is (.int .u8 (x.toNat : Int)), .is (.int .u8 (x.toNat : Int)), .is (.int .u8 (y.toNat : Int)), .bytes [x, y], .is (.int .u32 ((sum [x, y]).toNat : Int)), .is (.bool false), .is (.bool false), .is (.bool false), .is (.int .i64 (x.toNat : Int)), .is (.int .u32 (x.toNat : Int)), .is (.int .u32 (s.toNat : Int)), .is (.int .u8 (x.toNat : Int)), .bytes [x], .is (.int .u32 ((upd s [x]).toNat : Int)), .is (.int .i64 (x.toNat : Int)), .is (.int .u32 (x.toNat : Int)), .is (.int .u32 (s.toNat : Int)), .is (.int .u8 (x.toNat : Int)), .bytes [x], .is (.int .u32 ((upd s [x]).toNat : Int)), .is (.bool false), .is (.bool false)]) (Facts.mono _) (by kernel_rfl) ?_ ?_
          · refine ⟨?_, ?_, ?_, ?_, ?_, ?_, ?_, ?_, ?_, ?_, ?_, ?_, ?_, ?_, ?_, ?_, ?_, ?_, ?_, ?_, ?_, ?_, ?_, ?_, ?_, ?_, ?_, ?_, ?_, ?_, ?_, ?_, ?_, ?_, ?_, ?_, ?_, ?_, trivial⟩
            · refine stepOf_wanted (fun _ _ _ _ _ => wanted_none rfl) ?_
              intro us w3 a' ha hg hd K hK
              have q3 : a'.tmps[3]? = some (.int .u8 (x.toNat : Int)) := by rw [ha.out]; kernel_rfl
              exact step_value (w2 := w3) (by go_simp) (hK _ _ (Grow.refl _) rfl)
            · refine stepOf_wanted (fun _ _ _ _ _ => wanted_none rfl) ?_
              intro us w3 a' ha hg hd K hK
              obtain ⟨d0, _⟩ := hd
              have q13 : a'.tmps[13]? = some (us 0) := by rw [ha.out]; kernel_rfl
              rw [show us 0 = .int .u8 (x.toNat : Int) from d0] at q13
              refine step_value (v := .slice (some ⟨w3.heap.size, 0, none⟩) 1 1) (w2 := w3.alloc (.cells (([x]).map b8).toArray 5)) (by go_simp; rfl) (hK _ _ (Grow.alloc _ _) ?_)
              exact ⟨_, 1, rfl, Nat.le_refl _, by unfold maxLen; simp, by have := BytesAt.made w3 5 [x]; exact this.more (by simp)⟩
            · refine stepOf_wanted (fun _ _ _ _ _ => wanted_none rfl) ?_
              intro us w3 a' ha hg hd K hK
              obtain ⟨⟨A1, c1, u1, l1, m1, b1⟩, _⟩ := hd
              have q14 : a'.tmps[14]? = some (us 1) := by rw [ha.out]; kernel_rfl
              rw [u1] at q14
              refine step_value (v := .slice (some ⟨w3.heap.size, 0, none⟩) 1 1) (w2 := w3.alloc (.cells ([(A1, ([x]).length, c1)].map sliceOf).toArray 22)) (by go_simp; rfl) (hK _ _ (Grow.alloc _ _) ?_)
              exact ⟨_, _, rfl, by have := RowsAt.made w3 22 [(A1, ([x]).length, c1)] [[x]] ⟨⟨l1, m1, b1⟩, trivial⟩; exact this.more (by simp)⟩
            · refine stepOf_wanted (fun _ _ _ _ _ => wanted_none rfl) ?_
              intro us w3 a' ha hg hd K hK
              obtain ⟨⟨A2, c2, u2, r2⟩, _⟩ := hd
              have q15 : a'.tmps[15]? = some (us 2) := by rw [ha.out]; kernel_rfl
              rw [u2] at q15
              refine step_call (f := 13) (args := #[.slice A2 1 c2]) (by go_simp) ?_
              refine (Sum_any w3 w3.heap.size A2 1 c2 [[x]] r2 (Nat.le_refl _) (by unfold maxLen; omega)).mono ?_
              rintro e w4 ⟨rfl, hb⟩
              exact ⟨_, rfl, hK _ _ hb (show _ = _ by simp)⟩
            · refine stepOf_wanted (fun _ _ _ _ _ => wanted_none rfl) ?_
              intro us w3 a' ha hg hd K hK
              have q3 : a'.tmps[3]? = some (.int .u8 (x.toNat : Int)) := by rw [ha.out]; kernel_rfl
              exact step_value (w2 := w3) (by go_simp) (hK _ _ (Grow.refl _) rfl)
            · refine stepOf_wanted (fun _ _ _ _ _ => wanted_none rfl) ?_
              intro us w3 a' ha hg hd K hK
              obtain ⟨d4, _⟩ := hd
              have q17 : a'.tmps[17]? = some (us 4) := by rw [ha.out]; kernel_rfl
              rw [show us 4 = .int .u8 (x.toNat : Int) from d4] at q17
              refine step_value (v := .slice (some ⟨w3.heap.size, 0, none⟩) 1 1) (w2 := w3.alloc (.cells (([x]).map b8).toArray 5)) (by go_simp; rfl) (hK _ _ (Grow.alloc _ _) ?_)
              exact ⟨_, 1, rfl, Nat.le_refl _, by unfold maxLen; simp, by have := BytesAt.made w3 5 [x]; exact this.more (by simp)⟩
            · refine stepOf_wanted (fun _ _ _ _ _ => wanted_none rfl) ?_
              intro us w3 a' ha hg hd K hK
              obtain ⟨⟨A5, c5, u5, l5, m5, b5⟩, _, _⟩ := hd
              have q18 : a'.tmps[18]? = some (us 5) := by rw [ha.out]; kernel_rfl
              rw [u5] at q18
              refine step_call (f := 23) (args := #[.slice A5 1 c5]) (by go_simp) ?_
              refine (rOne_any w3 w3.heap.size A5 _ c5 [x] b5 l5 m5).mono ?_
              rintro e w4 ⟨rfl, rfl⟩
              exact ⟨_, rfl, hK _ _ (Grow.refl _) rfl⟩
            · refine stepOf_wanted (fun _ _ _ _ _ => wanted_none rfl) ?_
              intro us w3 a' ha hg hd K hK
              obtain ⟨d3, d6, _⟩ := hd
              have q16 : a'.tmps[16]? = some (us 3) := by rw [ha.out]; kernel_rfl
              rw [show us 3 = .int .u32 ((sum [x]).toNat : Int) from d3] at q16
              have q19 : a'.tmps[19]? = some (us 6) := by rw [ha.out]; kernel_rfl
              rw [show us 6 = .int .u32 ((sum [x]).toNat : Int) from d6] at q19
              refine step_value (v := .bool false) (w2 := w3) ?_ (hK _ _ (Grow.refl _) rfl)
              go_simp
            · refine stepOf_wanted (fun _ _ _ _ _ => wanted_none rfl) ?_
              intro us w3 a' ha hg hd K hK
              obtain ⟨d7, _, _⟩ := hd
              have q20 : a'.tmps[20]? = some (us 7) := by rw [ha.out]; kernel_rfl
              rw [show us 7 = .bool false from d7] at q20
              exact step_value (w2 := w3) (by go_simp) (hK _ _ (Grow.refl _) rfl)
            · refine stepOf_wanted (fun us w3 a' ha hd => ?_) ?_
              · obtain ⟨d8, _⟩ := hd
                have q : a'.tmps[21]? = some (us 8) := by rw [ha.out]; kernel_rfl
                rw [show us 8 = .bool false from d8] at q
                exact wanted_some rfl rfl q
              intro us w3 a' ha hg hd K hK
              have q3 : a'.tmps[3]? = some (.int .u8 (x.toNat : Int)) := by rw [ha.out]; kernel_rfl
              exact step_value (w2 := w3) (by go_simp) (hK _ _ (Grow.refl _) rfl)
            · refine stepOf_wanted (fun us w3 a' ha hd => ?_) ?_
              · obtain ⟨_, d8, _⟩ := hd
                have q : a'.tmps[21]? = some (us 8) := by rw [ha.out]; kernel_rfl
                rw [show us 8 = .bool false from d8] at q
                exact wanted_some rfl rfl q
              intro us w3 a' ha hg hd K hK
              obtain ⟨d9, _, _⟩ := hd
              have q22 : a'.tmps[22]? = some (us 9) := by rw [ha.out]; kernel_rfl
              rw [show us 9 = .int .u8 (x.toNat : Int) from d9] at q22
              refine step_value (v := .slice (some ⟨w3.heap.size, 0, none⟩) 1 1) (w2 := w3.alloc (.cells (([x]).map b8).toArray 5)) (by go_simp; rfl) (hK _ _ (Grow.alloc _ _) ?_)
              exact ⟨_, 1, rfl, Nat.le_refl _, by unfold maxLen; simp, by have := BytesAt.made w3 5 [x]; exact this.more (by simp)⟩
            · refine stepOf_wanted (fun us w3 a' ha hd => ?_) ?_
              · obtain ⟨d8, _⟩ := hd
                have q : a'.tmps[21]? = some (us 8) := by rw [ha.out]; kernel_rfl
                rw [show us 8 = .bool false from d8] at q
                exact wanted_some rfl rfl q
              intro us w3 a' ha hg hd K hK
              have q3 : a'.tmps[3]? = some (.int .u8 (x.toNat : Int)) := by rw [ha.out]; kernel_rfl
              exact step_value (w2 := w3) (by go_simp) (hK _ _ (Grow.refl _) rfl)
            · refine stepOf_wanted (fun us w3 a' ha hd => ?_) ?_
              · obtain ⟨_, d8, _⟩ := hd
                have q : a'.tmps[21]? = some (us 8) := by rw [ha.out]; kernel_rfl
                rw [show us 8 = .bool false from d8] at q
                exact wanted_some rfl rfl q
              intro us w3 a' ha hg hd K hK
              obtain ⟨d11, _, _⟩ := hd
              have q24 : a'.tmps[24]? = some (us 11) := by rw [ha.out]; kernel_rfl
              rw [show us 11 = .int .u8 (x.toNat : Int) from d11] at q24
              have hx := Hy.out
              refine step_value (v := .int .u8 (y.toNat : Int)) (w2 := w3) ?_ (hK _ _ (Grow.refl _) rfl)
              go_simp
              exact Hy.out
            · refine stepOf_wanted (fun us w3 a' ha hd => ?_) ?_
              · obtain ⟨_, d8, _⟩ := hd
                have q : a'.tmps[21]? = some (us 8) := by rw [ha.out]; kernel_rfl
                rw [show us 8 = .bool false from d8] at q
                exact wanted_some rfl rfl q
              intro us w3 a' ha hg hd K hK
              obtain ⟨d12, _, _⟩ := hd
              have q25 : a'.tmps[25]? = some (us 12) := by rw [ha.out]; kernel_rfl
              rw [show us 12 = .int .u8 (y.toNat : Int) from d12] at q25
              refine step_value (v := .slice (some ⟨w3.heap.size, 0, none⟩) 1 1) (w2 := w3.alloc (.cells (([y]).map b8).toArray 5)) (by go_simp; rfl) (hK _ _ (Grow.alloc _ _) ?_)
              exact ⟨_, 1, rfl, Nat.le_refl _, by unfold maxLen; simp, by have := BytesAt.made w3 5 [y]; exact this.more (by simp)⟩
            · refine stepOf_wanted (fun us w3 a' ha hd => ?_) ?_
              · obtain ⟨_, _, d8, _⟩ := hd
                have q : a'.tmps[21]? = some (us 8) := by rw [ha.out]; kernel_rfl
                rw [show us 8 = .bool false from d8] at q
                exact wanted_some rfl rfl q
              intro us w3 a' ha hg hd K hK
              obtain ⟨⟨A10, c10, u10, l10, m10, b10⟩, ⟨A13, c13, u13, l13, m13, b13⟩, _, _⟩ := hd
              have q23 : a'.tmps[23]? = some (us 10) := by rw [ha.out]; kernel_rfl
              rw [u10] at q23
              have q26 : a'.tmps[26]? = some (us 13) := by rw [ha.out]; kernel_rfl
              rw [u13] at q26
              refine step_value (v := .slice (some ⟨w3.heap.size, 0, none⟩) 3 3) (w2 := w3.alloc (.cells ([(A10, ([x]).length, c10), (none, 0, 0), (A13, ([y]).length, c13)].map sliceOf).toArray 22)) (by go_simp; rfl) (hK _ _ (Grow.alloc _ _) ?_)
              exact ⟨_, _, rfl, by have := RowsAt.made w3 22 [(A10, ([x]).length, c10), (none, 0, 0), (A13, ([y]).length, c13)] [[x], [], [y]] ⟨⟨l10, m10, b10⟩, ⟨Nat.le_refl _, Nat.zero_le _, BytesAt.nil⟩, ⟨l13, m13, b13⟩, trivial⟩; exact this.more (by simp)⟩
            · refine stepOf_wanted (fun us w3 a' ha hd => ?_) ?_
              · obtain ⟨_, d8, _, _⟩ := hd
                have q : a'.tmps[21]? = some (us 8) := by rw [ha.out]; kernel_rfl
                rw [show us 8 = .bool false from d8] at q
                exact wanted_some rfl rfl q
              intro us w3 a' ha hg hd K hK
              obtain ⟨⟨A14, c14, u14, r14⟩, _, _, _⟩ := hd
              have q27 : a'.tmps[27]? = some (us 14) := by rw [ha.out]; kernel_rfl
              rw [u14] at q27
              refine step_call (f := 13) (args := #[.slice A14 3 c14]) (by go_simp) ?_
              refine (Sum_any w3 w3.heap.size A14 3 c14 [[x], [], [y]] r14 (Nat.le_refl _) (by unfold maxLen; omega)).mono ?_
              rintro e w4 ⟨rfl, hb⟩
              exact ⟨_, rfl, hK _ _ hb (show _ = _ by simp)⟩
            · refine stepOf_wanted (fun us w3 a' ha hd => ?_) ?_
              · obtain ⟨d8, _⟩ := hd
                have q : a'.tmps[21]? = some (us 8) := by rw [ha.out]; kernel_rfl
                rw [show us 8 = .bool false from d8] at q
                exact wanted_some rfl rfl q
              intro us w3 a' ha hg hd K hK
              have q3 : a'.tmps[3]? = some (.int .u8 (x.toNat : Int)) := by rw [ha.out]; kernel_rfl
              exact step_value (w2 := w3) (by go_simp) (hK _ _ (Grow.refl _) rfl)
            · refine stepOf_wanted (fun us w3 a' ha hd => ?_) ?_
              · obtain ⟨d8, _⟩ := hd
                have q : a'.tmps[21]? = some (us 8) := by rw [ha.out]; kernel_rfl
                rw [show us 8 = .bool false from d8] at q
                exact wanted_some rfl rfl q
              intro us w3 a' ha hg hd K hK
              have q3 : a'.tmps[3]? = some (.int .u8 (x.toNat : Int)) := by rw [ha.out]; kernel_rfl
              exact step_value (w2 := w3) (by go_simp) (hK _ _ (Grow.refl _) rfl)
            · refine stepOf_wanted (fun us w3 a' ha hd => ?_) ?_
              · obtain ⟨_, d8, _⟩ := hd
                have q : a'.tmps[21]? = some (us 8) := by rw [ha.out]; kernel_rfl
                rw [show us 8 = .bool false from d8] at q
                exact wanted_some rfl rfl q
              intro us w3 a' ha hg hd K hK
              obtain ⟨d17, _, _⟩ := hd
              have q30 : a'.tmps[30]? = some (us 17) := by rw [ha.out]; kernel_rfl
              rw [show us 17 = .int .u8 (x.toNat : Int) from d17] at q30
              have hx := Hy.out
              refine step_value (v := .int .u8 (y.toNat : Int)) (w2 := w3) ?_ (hK _ _ (Grow.refl _) rfl)
              go_simp
              exact Hy.out
            · refine stepOf_wanted (fun us w3 a' ha hd => ?_) ?_
              · obtain ⟨_, _, d8, _⟩ := hd
                have q : a'.tmps[21]? = some (us 8) := by rw [ha.out]; kernel_rfl
                rw [show us 8 = .bool false from d8] at q
                exact wanted_some rfl rfl q
              intro us w3 a' ha hg hd K hK
              obtain ⟨d16, d18, _, _⟩ := hd
              have q29 : a'.tmps[29]? = some (us 16) := by rw [ha.out]; kernel_rfl
              rw [show us 16 = .int .u8 (x.toNat : Int) from d16] at q29
              have q31 : a'.tmps[31]? = some (us 18) := by rw [ha.out]; kernel_rfl
              rw [show us 18 = .int .u8 (y.toNat : Int) from d18] at q31
              refine step_value (v := .slice (some ⟨w3.heap.size, 0, none⟩) 2 2) (w2 := w3.alloc (.cells (([x, y]).map b8).toArray 5)) (by go_simp; rfl) (hK _ _ (Grow.alloc _ _) ?_)
              exact ⟨_, 2, rfl, Nat.le_refl _, by unfold maxLen; simp, by have := BytesAt.made w3 5 [x, y]; exact this.more (by simp)⟩
            · refine stepOf_wanted (fun us w3 a' ha hd => ?_) ?_
              · obtain ⟨_, _, d8, _⟩ := hd
                have q : a'.tmps[21]? = some (us 8) := by rw [ha.out]; kernel_rfl
                rw [show us 8 = .bool false from d8] at q
                exact wanted_some rfl rfl q
              intro us w3 a' ha hg hd K hK
              obtain ⟨⟨A19, c19, u19, l19, m19, b19⟩, _, _, _⟩ := hd
              have q32 : a'.tmps[32]? = some (us 19) := by rw [ha.out]; kernel_rfl
              rw [u19] at q32
              refine step_call (f := 23) (args := #[.slice A19 2 c19]) (by go_simp) ?_
              refine (rOne_any w3 w3.heap.size A19 _ c19 [x, y] b19 l19 m19).mono ?_
              rintro e w4 ⟨rfl, rfl⟩
              exact ⟨_, rfl, hK _ _ (Grow.refl _) rfl⟩
            · refine stepOf_wanted (fun us w3 a' ha hd => ?_) ?_
              · obtain ⟨_, _, d8, _⟩ := hd
                have q : a'.tmps[21]? = some (us 8) := by rw [ha.out]; kernel_rfl
                rw [show us 8 = .bool false from d8] at q
                exact wanted_some rfl rfl q
              intro us w3 a' ha hg hd K hK
              obtain ⟨d15, d20, _, _⟩ := hd
              have q28 : a'.tmps[28]? = some (us 15) := by rw [ha.out]; kernel_rfl
              rw [show us 15 = .int .u32 ((sum [x, y]).toNat : Int) from d15] at q28
              have q33 : a'.tmps[33]? = some (us 20) := by rw [ha.out]; kernel_rfl
              rw [show us 20 = .int .u32 ((sum [x, y]).toNat : Int) from d20] at q33
              refine step_value (v := .bool false) (w2 := w3) ?_ (hK _ _ (Grow.refl _) rfl)
              go_simp
            · refine stepOf_wanted (fun _ _ _ _ _ => wanted_none rfl) ?_
              intro us w3 a' ha hg hd K hK
              obtain ⟨d8, d21, _⟩ := hd
              have q21 : a'.tmps[21]? = some (us 8) := by rw [ha.out]; kernel_rfl
              rw [show us 8 = .bool false from d8] at q21
              have q34 : a'.tmps[34]? = some (us 21) := by rw [ha.out]; kernel_rfl
              rw [show us 21 = .bool false from d21] at q34
              refine step_value (v := .bool false) (w2 := w3) ?_ (hK _ _ (Grow.refl _) rfl)
              go_simp
            · refine stepOf_wanted (fun _ _ _ _ _ => wanted_none rfl) ?_
              intro us w3 a' ha hg hd K hK
              obtain ⟨d22, _, _⟩ := hd
              have q35 : a'.tmps[35]? = some (us 22) := by rw [ha.out]; kernel_rfl
              rw [show us 22 = .bool false from d22] at q35
              exact step_value (w2 := w3) (by go_simp) (hK _ _ (Grow.refl _) rfl)
            · refine stepOf_wanted (fun us w3 a' ha hd => ?_) ?_
              · obtain ⟨d23, _⟩ := hd
                have q : a'.tmps[36]? = some (us 23) := by rw [ha.out]; kernel_rfl
                rw [show us 23 = .bool false from d23] at q
                exact wanted_some rfl rfl q
              intro us w3 a' ha hg hd K hK
              have q2 : a'.tmps[2]? = some (.int .i64 (x.toNat : Int)) := by rw [ha.out]; kernel_rfl
              exact step_value (w2 := w3) (by go_simp) (hK _ _ (Grow.refl _) rfl)
            · refine stepOf_wanted (fun us w3 a' ha hd => ?_) ?_
              · obtain ⟨_, d23, _⟩ := hd
                have q : a'.tmps[36]? = some (us 23) := by rw [ha.out]; kernel_rfl
                rw [show us 23 = .bool false from d23] at q
                exact wanted_some rfl rfl q
              intro us w3 a' ha hg hd K hK
              obtain ⟨d24, _, _⟩ := hd
              have q37 : a'.tmps[37]? = some (us 24) := by rw [ha.out]; kernel_rfl
              rw [show us 24 = .int .i64 (x.toNat : Int) from d24] at q37
              refine step_value (v := .int .u32 (x.toNat : Int)) (w2 := w3) ?_ (hK _ _ (Grow.refl _) rfl)
              go_simp
              exact wrap_u32 _ (by omega) (by have := x.toNat_lt; omega)
            · refine stepOf_wanted (fun us w3 a' ha hd => ?_) ?_
              · obtain ⟨_, d23, _⟩ := hd
                have q : a'.tmps[36]? = some (us 23) := by rw [ha.out]; kernel_rfl
                rw [show us 23 = .bool false from d23] at q
                exact wanted_some rfl rfl q
              intro us w3 a' ha hg hd K hK
              obtain ⟨d25, _, _⟩ := hd
              have q38 : a'.tmps[38]? = some (us 25) := by rw [ha.out]; kernel_rfl
              rw [show us 25 = .int .u32 (x.toNat : Int) from d25] at q38
              have hx := Hs.out
              refine step_value (v := .int .u32 (s.toNat : Int)) (w2 := w3) ?_ (hK _ _ (Grow.refl _) rfl)
              go_simp
              exact wrap_u32 _ (by omega) (by have := s.isLt; omega)
            · refine stepOf_wanted (fun us w3 a' ha hd => ?_) ?_
              · obtain ⟨d23, _⟩ := hd
                have q : a'.tmps[36]? = some (us 23) := by rw [ha.out]; kernel_rfl
                rw [show us 23 = .bool false from d23] at q
                exact wanted_some rfl rfl q
              intro us w3 a' ha hg hd K hK
              have q3 : a'.tmps[3]? = some (.int .u8 (x.toNat : Int)) := by rw [ha.out]; kernel_rfl
              exact step_value (w2 := w3) (by go_simp) (hK _ _ (Grow.refl _) rfl)
            · refine stepOf_wanted (fun us w3 a' ha hd => ?_) ?_
              · obtain ⟨_, d23, _⟩ := hd
                have q : a'.tmps[36]? = some (us 23) := by rw [ha.out]; kernel_rfl
                rw [show us 23 = .bool false from d23] at q
                exact wanted_some rfl rfl q
              intro us w3 a' ha hg hd K hK
              obtain ⟨d27, _, _⟩ := hd
              have q40 : a'.tmps[40]? = some (us 27) := by rw [ha.out]; kernel_rfl
              rw [show us 27 = .int .u8 (x.toNat : Int) from d27] at q40
              refine step_value (v := .slice (some ⟨w3.heap.size, 0, none⟩) 1 1) (w2 := w3.alloc (.cells (([x]).map b8).toArray 5)) (by go_simp; rfl) (hK _ _ (Grow.alloc _ _) ?_)
              exact ⟨_, 1, rfl, Nat.le_refl _, by unfold maxLen; simp, by have := BytesAt.made w3 5 [x]; exact this.more (by simp)⟩
            · refine stepOf_wanted (fun us w3 a' ha hd => ?_) ?_
              · obtain ⟨_, _, d23, _, _⟩ := hd
                have q : a'.tmps[36]? = some (us 23) := by rw [ha.out]; kernel_rfl
                rw [show us 23 = .bool false from d23] at q
                exact wanted_some rfl rfl q
              intro us w3 a' ha hg hd K hK
              obtain ⟨d26, ⟨A28, c28, u28, l28, m28, b28⟩, _, _, _⟩ := hd
              have q39 : a'.tmps[39]? = some (us 26) := by rw [ha.out]; kernel_rfl
              rw [show us 26 = .int .u32 (s.toNat : Int) from d26] at q39
              have q41 : a'.tmps[41]? = some (us 28) := by rw [ha.out]; kernel_rfl
              rw [u28] at q41
              refine step_call (f := 15) (args := #[.int .u32 (s.toNat : Int), .slice A28 1 c28]) (by go_simp) ?_
              refine (Update_any w3 w3.heap.size s A28 _ c28 [x] b28 (Nat.le_refl _) l28 m28).mono ?_
              rintro e w4 ⟨rfl, hb⟩
              exact ⟨_, rfl, hK _ _ hb rfl⟩
            · refine stepOf_wanted (fun us w3 a' ha hd => ?_) ?_
              · obtain ⟨d23, _⟩ := hd
                have q : a'.tmps[36]? = some (us 23) := by rw [ha.out]; kernel_rfl
                rw [show us 23 = .bool false from d23] at q
                exact wanted_some rfl rfl q
              intro us w3 a' ha hg hd K hK
              have q2 : a'.tmps[2]? = some (.int .i64 (x.toNat : Int)) := by rw [ha.out]; kernel_rfl
              exact step_value (w2 := w3) (by go_simp) (hK _ _ (Grow.refl _) rfl)
            · refine stepOf_wanted (fun us w3 a' ha hd => ?_) ?_
              · obtain ⟨_, d23, _⟩ := hd
                have q : a'.tmps[36]? = some (us 23) := by rw [ha.out]; kernel_rfl
                rw [show us 23 = .bool false from d23] at q
                exact wanted_some rfl rfl q
              intro us w3 a' ha hg hd K hK
              obtain ⟨d30, _, _⟩ := hd
              have q43 : a'.tmps[43]? = some (us 30) := by rw [ha.out]; kernel_rfl
              rw [show us 30 = .int .i64 (x.toNat : Int) from d30] at q43
              refine step_value (v := .int .u32 (x.toNat : Int)) (w2 := w3) ?_ (hK _ _ (Grow.refl _) rfl)
              go_simp
              exact wrap_u32 _ (by omega) (by have := x.toNat_lt; omega)
            · refine stepOf_wanted (fun us w3 a' ha hd => ?_) ?_
              · obtain ⟨_, d23, _⟩ := hd
                have q : a'.tmps[36]? = some (us 23) := by rw [ha.out]; kernel_rfl
                rw [show us 23 = .bool false from d23] at q
                exact wanted_some rfl rfl q
              intro us w3 a' ha hg hd K hK
              obtain ⟨d31, _, _⟩ := hd
              have q44 : a'.tmps[44]? = some (us 31) := by rw [ha.out]; kernel_rfl
              rw [show us 31 = .int .u32 (x.toNat : Int) from d31] at q44
              have hx := Hs.out
              refine step_value (v := .int .u32 (s.toNat : Int)) (w2 := w3) ?_ (hK _ _ (Grow.refl _) rfl)
              go_simp
              exact wrap_u32 _ (by omega) (by have := s.isLt; omega)
            · refine stepOf_wanted (fun us w3 a' ha hd => ?_) ?_
              · obtain ⟨d23, _⟩ := hd
                have q : a'.tmps[36]? = some (us 23) := by rw [ha.out]; kernel_rfl
                rw [show us 23 = .bool false from d23] at q
                exact wanted_some rfl rfl q
              intro us w3 a' ha hg hd K hK
              have q3 : a'.tmps[3]? = some (.int .u8 (x.toNat : Int)) := by rw [ha.out]; kernel_rfl
              exact step_value (w2 := w3) (by go_simp) (hK _ _ (Grow.refl _) rfl)
            · refine stepOf_wanted (fun us w3 a' ha hd => ?_) ?_
              · obtain ⟨_, d23, _⟩ := hd
                have q : a'.tmps[36]? = some (us 23) := by rw [ha.out]; kernel_rfl
                rw [show us 23 = .bool false from d23] at q
                exact wanted_some rfl rfl q
              intro us w3 a' ha hg hd K hK
              obtain ⟨d33, _, _⟩ := hd
              have q46 : a'.tmps[46]? = some (us 33) := by rw [ha.out]; kernel_rfl
              rw [show us 33 = .int .u8 (x.toNat : Int) from d33] at q46
              refine step_value (v := .slice (some ⟨w3.heap.size, 0, none⟩) 1 1) (w2 := w3.alloc (.cells (([x]).map b8).toArray 5)) (by go_simp; rfl) (hK _ _ (Grow.alloc _ _) ?_)
              exact ⟨_, 1, rfl, Nat.le_refl _, by unfold maxLen; simp, by have := BytesAt.made w3 5 [x]; exact this.more (by simp)⟩
            · refine stepOf_wanted (fun us w3 a' ha hd => ?_) ?_
              · obtain ⟨_, _, _, d23, _⟩ := hd
                have q : a'.tmps[36]? = some (us 23) := by rw [ha.out]; kernel_rfl
                rw [show us 23 = .bool false from d23] at q
                exact wanted_some rfl rfl q
              intro us w3 a' ha hg hd K hK
              obtain ⟨d32, ⟨A34, c34, u34, l34, m34, b34⟩, _, _, _⟩ := hd
              have q45 : a'.tmps[45]? = some (us 32) := by rw [ha.out]; kernel_rfl
              rw [show us 32 = .int .u32 (s.toNat : Int) from d32] at q45
              have q47 : a'.tmps[47]? = some (us 34) := by rw [ha.out]; kernel_rfl
              rw [u34] at q47
              refine step_call (f := 16) (args := #[.int .u32 (s.toNat : Int), .slice A34 1 c34]) (by go_simp) ?_
              refine (rUpdate_any w3 w3.heap.size s A34 _ c34 [x] b34 l34 m34).mono ?_
              rintro e w4 ⟨rfl, rfl⟩
              exact ⟨_, rfl, hK _ _ (Grow.refl _) rfl⟩
            · refine stepOf_wanted (fun us w3 a' ha hd => ?_) ?_
              · obtain ⟨_, _, d23, _⟩ := hd
                have q : a'.tmps[36]? = some (us 23) := by rw [ha.out]; kernel_rfl
                rw [show us 23 = .bool false from d23] at q
                exact wanted_some rfl rfl q
              intro us w3 a' ha hg hd K hK
              obtain ⟨d29, d35, _, _⟩ := hd
              have q42 : a'.tmps[42]? = some (us 29) := by rw [ha.out]; kernel_rfl
              rw [show us 29 = .int .u32 ((upd s [x]).toNat : Int) from d29] at q42
              have q48 : a'.tmps[48]? = some (us 35) := by rw [ha.out]; kernel_rfl
              rw [show us 35 = .int .u32 ((upd s [x]).toNat : Int) from d35] at q48
              refine step_value (v := .bool false) (w2 := w3) ?_ (hK _ _ (Grow.refl _) rfl)
              go_simp
            · refine stepOf_wanted (fun _ _ _ _ _ => wanted_none rfl) ?_
              intro us w3 a' ha hg hd K hK
              obtain ⟨d23, d36, _⟩ := hd
              have q36 : a'.tmps[36]? = some (us 23) := by rw [ha.out]; kernel_rfl
              rw [show us 23 = .bool false from d23] at q36
              have q49 : a'.tmps[49]? = some (us 36) := by rw [ha.out]; kernel_rfl
              rw [show us 36 = .bool false from d36] at q49
              refine step_value (v := .bool false) (w2 := w3) ?_ (hK _ _ (Grow.refl _) rfl)
              go_simp
          · intro us w3 hg hf
            have h50 : us 37 = .bool false := hf 37 (by decide)
            exact hM _ _ (Met.intro (hJ _ _ ⟨us 0, us 1, us 2, us 3, us 4, us 5, us 6, us 7, us 8, us 9, us 10, us 11, us 12, us 13, us 14, us 15, us 16, us 17, us 18, us 19, us 20, us 21, us 22, us 23, us 24, us 25, us 26, us 27, us 28, us 29, us 30, us 31, us 32, us 33, us 34, us 35, us 36, us 37, ⟨h50, hg⟩, by kernel_rfl⟩))
      case rest =>
        obtain ⟨rfl, hgr⟩ := hcut
        have hwz := hbw.size
        have hgz := hgr.size
        have hbc : Below w.heap.size w wc := hbw.trans (hgr.mono hwz)
        have hownc := own_below hown hgr
        by_cases h70 : x.toNat < 70
        · have hm : m1 = x.toNat := by have := Hm1.out; omega
          have hLl : L.length = m1 := by rw [HL.out, endRow_len, Hm1.out]
          obtain ⟨h, hh⟩ : ∃ h, h = x.toNat / 2 := ⟨_, rfl⟩
          have hhm : h ≤ m1 := by omega
          have hhc : h ≤ c1 := by omega
          have hhc2 : m1 - h ≤ c1 - h := by omega
          have htl' : (L.take h).length = h := by rw [List.length_take, hLl]; omega
          have hdl' : (L.drop h).length = m1 - h := by rw [List.length_drop, hLl]
          have Hh := Lib.hid (show (x.toNat : Int) / 2 = (h : Int) by omega)
          have Htl := Lib.hid htl'
          have Hdl := Lib.hid hdl'
          have Hm := Lib.hid hm
          have HLl := Lib.hid hLl
          clear hm hh htl' hdl' hLl
          obtain ⟨wo, rfl⟩ : ∃ wo : World, wo = wc := ⟨_, rfl⟩
          go_upto_region 11 with (fail)
          go_cut [73] from 53 to 73 (fun v73 wx => v73 = .bool false ∧ Grow wo wx)
          case first Jx Kx hJ hM =>
            have hRL : ∀ w3, Grow wo w3 → BytesAt w3 w3.heap.size A1 m1 L := fun w3 hg => (hrd'.below (hgr.trans hg)).more (Nat.le_trans hgz hg.size)
            have htl := Htl.out
            have hdl := Hdl.out
            refine wp_region_facts (by kernel_rfl) (Facts [.is (.slice A1 m1 c1), .rows [L], .is (.int .u32 ((sum L).toNat : Int)), .is (.slice A1 m1 c1), .is (.int .u32 ((sum L).toNat : Int)), .is (.bool false), .is (.bool false), .is (.slice A1 m1 c1), .is (.int .i64 (x.toNat : Int)), .is (.int .i64 (h : Int)), .bytes (L.take h), .is (.slice A1 m1 c1), .is (.int .i64 (x.toNat : Int)), .is (.int .i64 (h : Int)), .bytes (L.drop h), .rows [[], L.take h, [], [], L.drop h, []], .is (.int .u32 ((sum L).toNat : Int)), .is (.slice A1 m1 c1), .is (.int .u32 ((sum L).toNat : Int)), .is (.bool false), .is (.bool false)]) (Facts.mono _) (by kernel_rfl) ?_ ?_
            · refine ⟨?_, ?_, ?_, ?_, ?_, ?_, ?_, ?_, ?_, ?_, ?_, ?_, ?_, ?_, ?_, ?_, ?_, ?_, ?_, ?_, ?_, trivial⟩
              · refine stepOf_wanted (fun _ _ _ _ _ => wanted_none rfl) ?_
                intro us w3 a' ha hg hd K hK
                have q1 : a'.tmps[1]? = some (.slice A1 m1 c1) := by rw [ha.out]; kernel_rfl
                exact step_value (w2 := w3) (by go_simp) (hK _ _ (Grow.refl _) rfl)
              · refine stepOf_wanted (fun _ _ _ _ _ => wanted_none rfl) ?_
                intro us w3 a' ha hg hd K hK
                obtain ⟨d0, _⟩ := hd
                have q53 : a'.tmps[53]? = some (us 0) := by rw [ha.out]; kernel_rfl
                rw [show us 0 = .slice A1 m1 c1 from d0] at q53
                refine step_value (v := .slice (some ⟨w3.heap.size, 0, none⟩) 1 1) (w2 := w3.alloc (.cells ([(A1, m1, c1)].map sliceOf).toArray 22)) (by go_simp; rfl) (hK _ _ (Grow.alloc _ _) ?_)
                exact ⟨_, _, rfl, by have := RowsAt.made w3 22 [(A1, m1, c1)] [L] ⟨⟨hmc, hcm, hRL w3 hg⟩, trivial⟩; exact this.more (by simp)⟩
              · refine stepOf_wanted (fun _ _ _ _ _ => wanted_none rfl) ?_
                intro us w3 a' ha hg hd K hK
                obtain ⟨⟨A1, c1, u1, r1⟩, _⟩ := hd
                have q54 : a'.tmps[54]? = some (us 1) := by rw [ha.out]; kernel_rfl
                rw [u1] at q54
                refine step_call (f := 13) (args := #[.slice A1 1 c1]) (by go_simp) ?_
                refine (Sum_any w3 w3.heap.size A1 1 c1 [L] r1 (Nat.le_refl _) (by unfold maxLen; omega)).mono ?_
                rintro e w4 ⟨rfl, hb⟩
                exact ⟨_, rfl, hK _ _ hb (show _ = _ by simp)⟩
              · refine stepOf_wanted (fun _ _ _ _ _ => wanted_none rfl) ?_
                intro us w3 a' ha hg hd K hK
                have q1 : a'.tmps[1]? = some (.slice A1 m1 c1) := by rw [ha.out]; kernel_rfl
                exact step_value (w2 := w3) (by go_simp) (hK _ _ (Grow.refl _) rfl)
              · refine stepOf_wanted (fun _ _ _ _ _ => wanted_none rfl) ?_
                intro us w3 a' ha hg hd K hK
                obtain ⟨d3, _, _⟩ := hd
                have q56 : a'.tmps[56]? = some (us 3) := by rw [ha.out]; kernel_rfl
                rw [show us 3 = .slice A1 m1 c1 from d3] at q56
                refine step_call (f := 23) (args := #[.slice A1 m1 c1]) (by go_simp) ?_
                refine (rOne_any w3 w3.heap.size A1 m1 c1 L (hRL w3 hg) hmc hcm).mono ?_
                rintro e w4 ⟨rfl, rfl⟩
                exact ⟨_, rfl, hK _ _ (Grow.refl _) rfl⟩
              · refine stepOf_wanted (fun _ _ _ _ _ => wanted_none rfl) ?_
                intro us w3 a' ha hg hd K hK
                obtain ⟨d2, d4, _⟩ := hd
                have q55 : a'.tmps[55]? = some (us 2) := by rw [ha.out]; kernel_rfl
                rw [show us 2 = .int .u32 ((sum L).toNat : Int) from d2] at q55
                have q57 : a'.tmps[57]? = some (us 4) := by rw [ha.out]; kernel_rfl
                rw [show us 4 = .int .u32 ((sum L).toNat : Int) from d4] at q57
                refine step_value (v := .bool false) (w2 := w3) ?_ (hK _ _ (Grow.refl _) rfl)
                go_simp
              · refine stepOf_wanted (fun _ _ _ _ _ => wanted_none rfl) ?_
                intro us w3 a' ha hg hd K hK
                obtain ⟨d5, _, _⟩ := hd
                have q58 : a'.tmps[58]? = some (us 5) := by rw [ha.out]; kernel_rfl
                rw [show us 5 = .bool false from d5] at q58
                exact step_value (w2 := w3) (by go_simp) (hK _ _ (Grow.refl _) rfl)
              · refine stepOf_wanted (fun us w3 a' ha hd => ?_) ?_
                · obtain ⟨d6, _⟩ := hd
                  have q : a'.tmps[59]? = some (us 6) := by rw [ha.out]; kernel_rfl
                  rw [show us 6 = .bool false from d6] at q
                  exact wanted_some rfl rfl q
                intro us w3 a' ha hg hd K hK
                have q1 : a'.tmps[1]? = some (.slice A1 m1 c1) := by rw [ha.out]; kernel_rfl
                exact step_value (w2 := w3) (by go_simp) (hK _ _ (Grow.refl _) rfl)
              · refine stepOf_wanted (fun us w3 a' ha hd => ?_) ?_
                · obtain ⟨d6, _⟩ := hd
                  have q : a'.tmps[59]? = some (us 6) := by rw [ha.out]; kernel_rfl
                  rw [show us 6 = .bool false from d6] at q
                  exact wanted_some rfl rfl q
                intro us w3 a' ha hg hd K hK
                have q2 : a'.tmps[2]? = some (.int .i64 (x.toNat : Int)) := by rw [ha.out]; kernel_rfl
                exact step_value (w2 := w3) (by go_simp) (hK _ _ (Grow.refl _) rfl)
              · refine stepOf_wanted (fun us w3 a' ha hd => ?_) ?_
                · obtain ⟨_, d6, _⟩ := hd
                  have q : a'.tmps[59]? = some (us 6) := by rw [ha.out]; kernel_rfl
                  rw [show us 6 = .bool false from d6] at q
                  exact wanted_some rfl rfl q
                intro us w3 a' ha hg hd K hK
                obtain ⟨d8, _, _⟩ := hd
                have q61 : a'.tmps[61]? = some (us 8) := by rw [ha.out]; kernel_rfl
                rw [show us 8 = .int .i64 (x.toNat : Int) from d8] at q61
                have hx := Hh.out
                refine step_value (v := .int .i64 (h : Int)) (w2 := w3) ?_ (hK _ _ (Grow.refl _) rfl)
                go_simp
                exact IntWalk.i64_in _ (by omega)
              · refine stepOf_wanted (fun us w3 a' ha hd => ?_) ?_
                · obtain ⟨_, _, d6, _⟩ := hd
                  have q : a'.tmps[59]? = some (us 6) := by rw [ha.out]; kernel_rfl
                  rw [show us 6 = .bool false from d6] at q
                  exact wanted_some rfl rfl q
                intro us w3 a' ha hg hd K hK
                obtain ⟨d7, d9, _, _⟩ := hd
                have q60 : a'.tmps[60]? = some (us 7) := by rw [ha.out]; kernel_rfl
                rw [show us 7 = .slice A1 m1 c1 from d7] at q60
                have q62 : a'.tmps[62]? = some (us 9) := by rw [ha.out]; kernel_rfl
                rw [show us 9 = .int .i64 (h : Int) from d9] at q62
                refine step_cut_head bytesTy rfl q60 q62 h rfl hhc (hK _ _ (Grow.refl _) ?_)
                exact ⟨A1, c1, by rw [htl], by rw [htl]; exact hhc, hcm, by rw [htl]; exact (hRL w3 hg).head h hhm⟩
              · refine stepOf_wanted (fun us w3 a' ha hd => ?_) ?_
                · obtain ⟨d6, _⟩ := hd
                  have q : a'.tmps[59]? = some (us 6) := by rw [ha.out]; kernel_rfl
                  rw [show us 6 = .bool false from d6] at q
                  exact wanted_some rfl rfl q
                intro us w3 a' ha hg hd K hK
                have q1 : a'.tmps[1]? = some (.slice A1 m1 c1) := by rw [ha.out]; kernel_rfl
                exact step_value (w2 := w3) (by go_simp) (hK _ _ (Grow.refl _) rfl)
              · refine stepOf_wanted (fun us w3 a' ha hd => ?_) ?_
                · obtain ⟨d6, _⟩ := hd
                  have q : a'.tmps[59]? = some (us 6) := by rw [ha.out]; kernel_rfl
                  rw [show us 6 = .bool false from d6] at q
                  exact wanted_some rfl rfl q
                intro us w3 a' ha hg hd K hK
                have q2 : a'.tmps[2]? = some (.int .i64 (x.toNat : Int)) := by rw [ha.out]; kernel_rfl
                exact step_value (w2 := w3) (by go_simp) (hK _ _ (Grow.refl _) rfl)
              · refine stepOf_wanted (fun us w3 a' ha hd => ?_) ?_
                · obtain ⟨_, d6, _⟩ := hd
                  have q : a'.tmps[59]? = some (us 6) := by rw [ha.out]; kernel_rfl
                  rw [show us 6 = .bool false from d6] at q
                  exact wanted_some rfl rfl q
                intro us w3 a' ha hg hd K hK
                obtain ⟨d12, _, _⟩ := hd
                have q65 : a'.tmps[65]? = some (us 12) := by rw [ha.out]; kernel_rfl
                rw [show us 12 = .int .i64 (x.toNat : Int) from d12] at q65
                have hx := Hh.out
                refine step_value (v := .int .i64 (h : Int)) (w2 := w3) ?_ (hK _ _ (Grow.refl _) rfl)
                go_simp
                exact IntWalk.i64_in _ (by omega)
              · refine stepOf_wanted (fun us w3 a' ha hd => ?_) ?_
                · obtain ⟨_, _, d6, _⟩ := hd
                  have q : a'.tmps[59]? = some (us 6) := by rw [ha.out]; kernel_rfl
                  rw [show us 6 = .bool false from d6] at q
                  exact wanted_some rfl rfl q
                intro us w3 a' ha hg hd K hK
                obtain ⟨d11, d13, _, _⟩ := hd
                have q64 : a'.tmps[64]? = some (us 11) := by rw [ha.out]; kernel_rfl
                rw [show us 11 = .slice A1 m1 c1 from d11] at q64
                have q66 : a'.tmps[66]? = some (us 13) := by rw [ha.out]; kernel_rfl
                rw [show us 13 = .int .i64 (h : Int) from d13] at q66
                refine step_cut_tail bytesTy rfl q64 q66 h rfl hhm (hK _ _ (Grow.refl _) ?_)
                exact ⟨_, _, by rw [hdl], by rw [hdl]; exact hhc2, Nat.le_trans (Nat.sub_le _ _) hcm, by rw [hdl]; exact (hRL w3 hg).tail h hhm hmc⟩
              · refine stepOf_wanted (fun us w3 a' ha hd => ?_) ?_
                · obtain ⟨_, _, d6, _⟩ := hd
                  have q : a'.tmps[59]? = some (us 6) := by rw [ha.out]; kernel_rfl
                  rw [show us 6 = .bool false from d6] at q
                  exact wanted_some rfl rfl q
                intro us w3 a' ha hg hd K hK
                obtain ⟨⟨A10, c10, u10, l10, m10, b10⟩, ⟨A14, c14, u14, l14, m14, b14⟩, _, _⟩ := hd
                have q63 : a'.tmps[63]? = some (us 10) := by rw [ha.out]; kernel_rfl
                rw [u10] at q63
                have q67 : a'.tmps[67]? = some (us 14) := by rw [ha.out]; kernel_rfl
                rw [u14] at q67
                refine step_value (v := .slice (some ⟨w3.heap.size, 0, none⟩) 6 6) (w2 := w3.alloc (.cells ([(none, 0, 0), (A10, (L.take h).length, c10), (none, 0, 0), (none, 0, 0), (A14, (L.drop h).length, c14), (none, 0, 0)].map sliceOf).toArray 22)) (by go_simp; rfl) (hK _ _ (Grow.alloc _ _) ?_)
                exact ⟨_, _, rfl, by have := RowsAt.made w3 22 [(none, 0, 0), (A10, (L.take h).length, c10), (none, 0, 0), (none, 0, 0), (A14, (L.drop h).length, c14), (none, 0, 0)] [[], L.take h, [], [], L.drop h, []] ⟨⟨Nat.le_refl _, Nat.zero_le _, BytesAt.nil⟩, ⟨l10, m10, b10⟩, ⟨Nat.le_refl _, Nat.zero_le _, BytesAt.nil⟩, ⟨Nat.le_refl _, Nat.zero_le _, BytesAt.nil⟩, ⟨l14, m14, b14⟩, ⟨Nat.le_refl _, Nat.zero_le _, BytesAt.nil⟩, trivial⟩; exact this.more (by simp)⟩
              · refine stepOf_wanted (fun us w3 a' ha hd => ?_) ?_
                · obtain ⟨_, d6, _, _⟩ := hd
                  have q : a'.tmps[59]? = some (us 6) := by rw [ha.out]; kernel_rfl
                  rw [show us 6 = .bool false from d6] at q
                  exact wanted_some rfl rfl q
                intro us w3 a' ha hg hd K hK
                obtain ⟨⟨A15, c15, u15, r15⟩, _, _, _⟩ := hd
                have q68 : a'.tmps[68]? = some (us 15) := by rw [ha.out]; kernel_rfl
                rw [u15] at q68
                refine step_call (f := 13) (args := #[.slice A15 6 c15]) (by go_simp) ?_
                refine (Sum_any w3 w3.heap.size A15 6 c15 [[], L.take h, [], [], L.drop h, []] r15 (Nat.le_refl _) (by unfold maxLen; omega)).mono ?_
                rintro e w4 ⟨rfl, hb⟩
                exact ⟨_, rfl, hK _ _ hb (show _ = _ by simp [List.take_append_drop])⟩
              · refine stepOf_wanted (fun us w3 a' ha hd => ?_) ?_
                · obtain ⟨d6, _⟩ := hd
                  have q : a'.tmps[59]? = some (us 6) := by rw [ha.out]; kernel_rfl
                  rw [show us 6 = .bool false from d6] at q
                  exact wanted_some rfl rfl q
                intro us w3 a' ha hg hd K hK
                have q1 : a'.tmps[1]? = some (.slice A1 m1 c1) := by rw [ha.out]; kernel_rfl
                exact step_value (w2 := w3) (by go_simp) (hK _ _ (Grow.refl _) rfl)
              · refine stepOf_wanted (fun us w3 a' ha hd => ?_) ?_
                · obtain ⟨_, _, d6, _⟩ := hd
                  have q : a'.tmps[59]? = some (us 6) := by rw [ha.out]; kernel_rfl
                  rw [show us 6 = .bool false from d6] at q
                  exact wanted_some rfl rfl q
                intro us w3 a' ha hg hd K hK
                obtain ⟨d17, _, _, _⟩ := hd
                have q70 : a'.tmps[70]? = some (us 17) := by rw [ha.out]; kernel_rfl
                rw [show us 17 = .slice A1 m1 c1 from d17] at q70
                refine step_call (f := 23) (args := #[.slice A1 m1 c1]) (by go_simp) ?_
                refine (rOne_any w3 w3.heap.size A1 m1 c1 L (hRL w3 hg) hmc hcm).mono ?_
                rintro e w4 ⟨rfl, rfl⟩
                exact ⟨_, rfl, hK _ _ (Grow.refl _) rfl⟩
              · refine stepOf_wanted (fun us w3 a' ha hd => ?_) ?_
                · obtain ⟨_, _, d6, _⟩ := hd
                  have q : a'.tmps[59]? = some (us 6) := by rw [ha.out]; kernel_rfl
                  rw [show us 6 = .bool false from d6] at q
                  exact wanted_some rfl rfl q
                intro us w3 a' ha hg hd K hK
                obtain ⟨d16, d18, _, _⟩ := hd
                have q69 : a'.tmps[69]? = some (us 16) := by rw [ha.out]; kernel_rfl
                rw [show us 16 = .int .u32 ((sum L).toNat : Int) from d16] at q69
                have q71 : a'.tmps[71]? = some (us 18) := by rw [ha.out]; kernel_rfl
                rw [show us 18 = .int .u32 ((sum L).toNat : Int) from d18] at q71
                refine step_value (v := .bool false) (w2 := w3) ?_ (hK _ _ (Grow.refl _) rfl)
                go_simp
              · refine stepOf_wanted (fun _ _ _ _ _ => wanted_none rfl) ?_
                intro us w3 a' ha hg hd K hK
                obtain ⟨d6, d19, _⟩ := hd
                have q59 : a'.tmps[59]? = some (us 6) := by rw [ha.out]; kernel_rfl
                rw [show us 6 = .bool false from d6] at q59
                have q72 : a'.tmps[72]? = some (us 19) := by rw [ha.out]; kernel_rfl
                rw [show us 19 = .bool false from d19] at q72
                refine step_value (v := .bool false) (w2 := w3) ?_ (hK _ _ (Grow.refl _) rfl)
                go_simp
            · intro us w3 hg hf
              have h73 : us 20 = .bool false := hf 20 (by decide)
              exact hM _ _ (Met.intro (hJ _ _ ⟨us 0, us 1, us 2, us 3, us 4, us 5, us 6, us 7, us 8, us 9, us 10, us 11, us 12, us 13, us 14, us 15, us 16, us 17, us 18, us 19, us 20, ⟨h73, hg⟩, by kernel_rfl⟩))
          case rest =>
            obtain ⟨rfl, hgd⟩ := hcut
            have hgdz := hgd.size
            have hownd := (own_below hownc hgd)
            have hE := Lib.hid (show IntKind.u8.wrap ((x.toNat : Int) * 37) = ((UInt8.ofNat (x.toNat * 37)).toNat : Int) by
              have e2 : IntKind.u8.wrap ((x.toNat : Int) * 37) = ((x.toNat : Int) * 37) % 256 := by simp [IntKind.wrap, IntKind.bits, IntKind.signed]
              rw [e2, UInt8.toNat_ofNat']
              omega)
            have hm70 : m1 < 70 := by have := Hm.out; omega
            go_wp2_with (at_builtin; refine wpList_append_reads _ rfl (.tmp 74) (.tmp 78) rfl bytesTy rfl (hownd.alloc _) rfl (ReadsAt.made1 _ _ _) (by simp [Value.oneCell']) (by simp only [maxLen]; omega) (by omega) (by simp; omega) ?_; intro v' w2 hown2 hgrow hat)
            go_roundw
            case rel =>
              refine ⟨x.toNat + 1, by omega, by go_num, ?_, ?_⟩
              · have e1 : min (x.toNat + 1) 70 = m1 + 1 := by have := Hm.out; omega
                rw [e1, endRow_succ _ h70, List.map_append, ← HL.out]
                have e3 : [UInt8.ofNat (x.toNat * 37)].map b8 = [.int .u8 (IntKind.u8.wrap ((x.toNat : Int) * 37))] := by rw [hE.out]; rfl
                rw [e3]
                exact hown2
              · exact ((hbc.trans (hgd.mono hbc.size)).alloc (by omega) _).grown hgrow (by simp; omega) (fun g e => (hown.lt g e).1)
            case measure => simp [intOf]; omega
        · have Hm2 := Lib.hid (show min (x.toNat + 1) 70 = m1 by have := Hm1.out; omega)
          go_wp2
          go_roundw
          case rel =>
            refine ⟨x.toNat + 1, by omega, by go_num, ?_, hbc⟩
            rw [Hm2.out, endRow_stop _ (by omega), ← HL.out]
            exact hownc
          case measure => simp [intOf]; omega
    · have hbw := hI.below
      go_upto_region 14 with (fail)
      go_cut [0] from 80 to 89 (fun v0 wx => v0 = .bool true ∧ Below w.heap.size w wx)
      case first Jx Kx hJ hM =>
          refine wp_region_plain_facts (Facts [.rows [[], []], .is (.int .u32 0), .is (.bool true), .is (.bool true), .is (.int .u32 7), .is (.bool true), .is (.bool true), .is (.bool true), .is (.bool true), .is (.bool true), .is (.bool true)]) (Facts.mono _) (by kernel_rfl) ?_ ?_
          · refine ⟨?_, ?_, ?_, ?_, ?_, ?_, ?_, ?_, ?_, ?_, ?_, trivial⟩
            · refine stepOf_wanted (fun _ _ _ _ _ => wanted_none rfl) ?_
              intro us w3 a' ha hg hd K hK
              refine step_value (v := .slice (some ⟨w3.heap.size, 0, none⟩) 2 2) (w2 := w3.alloc (.cells ([(none, 0, 0), (none, 0, 0)].map sliceOf).toArray 22)) (by go_simp; rfl) (hK _ _ (Grow.alloc _ _) ?_)
              exact ⟨_, _, rfl, by have := RowsAt.made w3 22 [(none, 0, 0), (none, 0, 0)] [[], []] ⟨⟨Nat.le_refl _, Nat.zero_le _, BytesAt.nil⟩, ⟨Nat.le_refl _, Nat.zero_le _, BytesAt.nil⟩, trivial⟩; exact this.more (by simp)⟩
            · refine stepOf_wanted (fun _ _ _ _ _ => wanted_none rfl) ?_
              intro us w3 a' ha hg hd K hK
              obtain ⟨⟨A0, c0, u0, r0⟩, _⟩ := hd
              have q80 : a'.tmps[80]? = some (us 0) := by rw [ha.out]; kernel_rfl
              rw [u0] at q80
              refine step_call (f := 13) (args := #[.slice A0 2 c0]) (by go_simp) ?_
              refine (Sum_any w3 w3.heap.size A0 2 c0 [[], []] r0 (Nat.le_refl _) (by unfold maxLen; omega)).mono ?_
              rintro e w4 ⟨rfl, hb⟩
              exact ⟨_, rfl, hK _ _ hb (show _ = _ by rw [show ([[], []] : List (List UInt8)).flatten = [].flatten from rfl, sum_none])⟩
            · refine stepOf_wanted (fun _ _ _ _ _ => wanted_none rfl) ?_
              intro us w3 a' ha hg hd K hK
              obtain ⟨d1, _⟩ := hd
              have q81 : a'.tmps[81]? = some (us 1) := by rw [ha.out]; kernel_rfl
              rw [show us 1 = .int .u32 0 from d1] at q81
              refine step_value (v := .bool true) (w2 := w3) ?_ (hK _ _ (Grow.refl _) rfl)
              go_simp
            · refine stepOf_wanted (fun _ _ _ _ _ => wanted_none rfl) ?_
              intro us w3 a' ha hg hd K hK
              obtain ⟨d2, _, _⟩ := hd
              have q82 : a'.tmps[82]? = some (us 2) := by rw [ha.out]; kernel_rfl
              rw [show us 2 = .bool true from d2] at q82
              exact step_value (w2 := w3) (by go_simp) (hK _ _ (Grow.refl _) rfl)
            · refine stepOf_wanted (fun us w3 a' ha hd => ?_) ?_
              · obtain ⟨d3, _, _⟩ := hd
                have q : a'.tmps[83]? = some (us 3) := by rw [ha.out]; kernel_rfl
                rw [show us 3 = .bool true from d3] at q
                exact wanted_some rfl rfl q
              intro us w3 a' ha hg hd K hK
              refine step_call (f := 15) (args := #[.int .u32 7, .slice none 0 0]) (by go_simp) ?_
              refine (Update_any w3 w3.heap.size 7#32 none 0 0 [] BytesAt.nil (Nat.le_refl _) (Nat.le_refl _) (Nat.zero_le _)).mono ?_
              rintro e w4 ⟨rfl, hb⟩
              exact ⟨_, rfl, hK _ _ hb (show _ = _ by rw [upd_seven])⟩
            · refine stepOf_wanted (fun us w3 a' ha hd => ?_) ?_
              · obtain ⟨_, d3, _⟩ := hd
                have q : a'.tmps[83]? = some (us 3) := by rw [ha.out]; kernel_rfl
                rw [show us 3 = .bool true from d3] at q
                exact wanted_some rfl rfl q
              intro us w3 a' ha hg hd K hK
              obtain ⟨d4, _, _⟩ := hd
              have q84 : a'.tmps[84]? = some (us 4) := by rw [ha.out]; kernel_rfl
              rw [show us 4 = .int .u32 7 from d4] at q84
              refine step_value (v := .bool true) (w2 := w3) ?_ (hK _ _ (Grow.refl _) rfl)
              go_simp
            · refine stepOf_wanted (fun _ _ _ _ _ => wanted_none rfl) ?_
              intro us w3 a' ha hg hd K hK
              obtain ⟨d3, d5, _⟩ := hd
              have q83 : a'.tmps[83]? = some (us 3) := by rw [ha.out]; kernel_rfl
              rw [show us 3 = .bool true from d3] at q83
              have q85 : a'.tmps[85]? = some (us 5) := by rw [ha.out]; kernel_rfl
              rw [show us 5 = .bool true from d5] at q85
              refine step_value (v := .bool true) (w2 := w3) ?_ (hK _ _ (Grow.refl _) rfl)
              go_simp
            · refine stepOf_wanted (fun _ _ _ _ _ => wanted_none rfl) ?_
              intro us w3 a' ha hg hd K hK
              obtain ⟨d6, _, _⟩ := hd
              have q86 : a'.tmps[86]? = some (us 6) := by rw [ha.out]; kernel_rfl
              rw [show us 6 = .bool true from d6] at q86
              exact step_value (w2 := w3) (by go_simp) (hK _ _ (Grow.refl _) rfl)
            · refine stepOf_wanted (fun us w3 a' ha hd => ?_) ?_
              · obtain ⟨d7, _, _⟩ := hd
                have q : a'.tmps[87]? = some (us 7) := by rw [ha.out]; kernel_rfl
                rw [show us 7 = .bool true from d7] at q
                exact wanted_some rfl rfl q
              intro us w3 a' ha hg hd K hK
              refine step_call (f := 11) (args := #[]) (by go_simp) ?_
              refine (awake01_any w3).mono ?_
              rintro e w4 ⟨rfl, hb⟩
              exact ⟨_, rfl, hK _ _ hb rfl⟩
            · refine stepOf_wanted (fun _ _ _ _ _ => wanted_none rfl) ?_
              intro us w3 a' ha hg hd K hK
              obtain ⟨d7, d8, _⟩ := hd
              have q87 : a'.tmps[87]? = some (us 7) := by rw [ha.out]; kernel_rfl
              rw [show us 7 = .bool true from d7] at q87
              have q88 : a'.tmps[88]? = some (us 8) := by rw [ha.out]; kernel_rfl
              rw [show us 8 = .bool true from d8] at q88
              refine step_value (v := .bool true) (w2 := w3) ?_ (hK _ _ (Grow.refl _) rfl)
              go_simp
            · refine stepOf_wanted (fun _ _ _ _ _ => wanted_none rfl) ?_
              intro us w3 a' ha hg hd K hK
              obtain ⟨d9, _, _, _, _, _, _, _, _, _, _, _, _⟩ := hd
              have q89 : a'.tmps[89]? = some (us 9) := by rw [ha.out]; kernel_rfl
              rw [show us 9 = .bool true from d9] at q89
              exact step_value (w2 := w3) (by go_simp) (hK _ _ (Grow.refl _) rfl)
          · intro us w3 hg hf
            have h0 : us 10 = .bool true := hf 10 (by decide)
            exact hM _ _ (Met.intro (hJ _ _ ⟨us 10, us 0, us 1, us 2, us 3, us 4, us 5, us 6, us 7, us 8, us 9, ⟨h0, hbw.trans (hg.mono hbw.size)⟩, by kernel_rfl⟩))
      case rest =>
        obtain ⟨rfl, hbx⟩ := hcut
        go_wp2
        go_ret
        exact ⟨rfl, hbx⟩
end Go.Proofs.Ytcjbeaohmgfgoaa
