/-
  The walk of mudlarklaw01.CrcParts.
-/
import Derived.Test.YtcjbeaohmgfgoaaCut
import Derived.Test.YtcjbeaohmgfgoaaCrcAwake
import Derived.Test.YtcjbeaohmgfgoaaPick
import Derived.Deep.DeepCutAuto
import Derived.Deep.CutRange
import Derived.StillTailTactics
import Derived.BigRegion
namespace Go.Proofs.Ytcjbeaohmgfgoaa
open Go.RowKit CrcM

theorem upd_sum (l : List UInt8) (k : Nat) : upd (sum (l.take k)) (l.drop k) = sum l := by
  rw [sum, ← upd_append, List.take_append_drop]
  rfl

theorem Blk.bytesAt {w : World} {g t n : Nat} {X : List UInt8} (h : Blk w g t (X.map b8).toArray) (hl : X.length = n) : BytesAt w w.heap.size (some ⟨g, 0, none⟩) n X :=
  BytesAt.of_cells h.cells h.lt hl (fun j x hx => by simp [hx])
/-- what holds of the two rows that the law makes: x (block g8) has been turned up to i, none (block g9) is zeros -/
structure Two (w wr : World) (n g8 g9 : Nat) (X : List UInt8) (i : Nat) (l l2 : List UInt8) : Prop where
  below : Below w.heap.size w wr
  ne : g8 ≠ g9
  ge8 : w.heap.size ≤ g8
  ge9 : w.heap.size ≤ g9
  x : Blk wr g8 5 (X.map b8).toArray
  z : Blk wr g9 5 ((List.replicate n (0 : UInt8)).map b8).toArray
  len : X.length = n
  eq : ∀ j, j < i → X.getD j 0 = l.getD j 0 ^^^ l2.getD j 0

theorem Two.start1 {w wc : World} {n : Nat} {l l2 : List UInt8} (h : Below w.heap.size w wc) : Two w ((wc.alloc (.cells (Array.replicate n (.int .u8 0)) 5)).alloc (.cells (Array.replicate n (.int .u8 0)) 5)).drew n wc.heap.size (wc.heap.size + 1) (List.replicate n 0) 0 l l2 := by
  have hz := h.size
  have e : ((List.replicate n (0 : UInt8)).map b8).toArray = Array.replicate n (Value.int .u8 0) := by simp [b8]
  have b1 : Blk (wc.alloc (.cells (Array.replicate n (.int .u8 0)) 5)) wc.heap.size 5 (Array.replicate n (.int .u8 0)) := Blk.new _ _ _
  have b2 : Blk ((wc.alloc (.cells (Array.replicate n (.int .u8 0)) 5)).alloc (.cells (Array.replicate n (.int .u8 0)) 5)) (wc.heap.size + 1) 5 (Array.replicate n (.int .u8 0)) := by
    have := Blk.new (wc.alloc (.cells (Array.replicate n (Value.int .u8 0)) 5)) 5 (Array.replicate n (Value.int .u8 0))
    rwa [World.size_alloc] at this
  exact ⟨((h.alloc hz _).alloc (by simp; omega) _).drew, by omega, hz, by omega, by rw [e]; exact b1.alloc _, by rw [e]; exact b2, by simp, fun j hj => by omega⟩
theorem Two.next {w wr : World} {n g8 g9 i : Nat} {X l l2 : List UInt8} {x y : UInt8} (h : Two w wr n g8 g9 X i l l2) (hi : i < n) (hx : l[i]? = some x) (hy : l2[i]? = some y) :
    Two w (wr.setCell ⟨g8, i, none⟩ (.int .u8 ((x ^^^ y).toNat : Int))).drew n g8 g9 (X.set i (x ^^^ y)) (i + 1) l l2 := by
  refine ⟨(h.below.setCell (p := ⟨g8, i, none⟩) h.ge8 _).drew, h.ne, h.ge8, h.ge9, ?_, h.z.far (Ne.symm h.ne) _, by rw [List.length_set, h.len], fun j hj => ?_⟩
  · have := h.x.set i (.int .u8 ((x ^^^ y).toNat : Int))
    have e : (X.map b8).toArray.setIfInBounds i (.int .u8 ((x ^^^ y).toNat : Int)) = ((X.set i (x ^^^ y)).map b8).toArray := by
      simp [b8, List.map_set]
    rw [e] at this
    exact this
  · by_cases hji : j = i
    · subst hji
      have hl : j < X.length := by rw [h.len]; exact hi
      rw [List.getD_eq_getElem?_getD, List.getElem?_set_self hl, List.getD_eq_getElem?_getD, hx, List.getD_eq_getElem?_getD, hy]
      rfl
    · rw [List.getD_eq_getElem?_getD, List.getElem?_set_ne (Ne.symm hji), ← List.getD_eq_getElem?_getD]
      exact h.eq j (by omega)
theorem Two.start2 {w wc : World} {n : Nat} {l l2 : List UInt8} (h : Below w.heap.size w wc) : Two w ((wc.alloc (.cells (Array.replicate n (.int .u8 0)) 5)).alloc (.cells (Array.replicate n (.int .u8 0)) 5)).drew n (wc.heap.size + 1) wc.heap.size (List.replicate n 0) 0 l l2 := by
  have h1 := Two.start1 (n := n) (l := l) (l2 := l2) h
  exact ⟨h1.below, h1.ne.symm, h1.ge9, h1.ge8, h1.z, h1.x, by simp, fun j hj => by omega⟩

set_option maxRecDepth 100000 in
set_option maxHeartbeats 2000000 in
theorem parts_walk (w : World) (A A2 : Option Addr) (n c n2 c2 : Nat) (l l2 : List UInt8) (cut : Int) (hR : BytesAt w w.heap.size A n l) (hnc : n ≤ c) (hc : c ≤ maxLen) (hR2 : BytesAt w w.heap.size A2 n2 l2) (hnc2 : n2 ≤ c2) (hc2 : c2 ≤ maxLen)
    (h1 : -9223372036854775808 ≤ cut) (h2 : cut ≤ 9223372036854775807) :
    Calls Try.prog 5 #[.slice A n c, .int .i64 cut, .slice A2 n2 c2] w fun e w' => e = .returned (.bool true) ∧ Below w.heap.size w w' := by
  have bytesTy : AppTy Try.prog 22 5 (.int .u8 0) 1 1 := AppTy.mk' Try.underlying22 (by kernel_rfl) rfl (by decide)
  have hc0 := hc
  have hc20 := hc2
  unfold maxLen at hc hc2
  by_cases hn : n ≤ 20000 ∧ n ≤ n2
  · obtain ⟨hn, hn2⟩ := hn
    have hpk := pickI_nonneg cut ((n : Int) + 1)
    have hpk2 := pickI_lt cut ((n : Int) + 1) (by omega)
    obtain ⟨k, hk⟩ := Int.eq_ofNat_of_zero_le hpk
    rw [hk] at hpk2
    have hkn : k ≤ n := by omega
    have Hk := Lib.hid hk
    have hkc : k ≤ c := by omega
    have hkc2 : n - k ≤ c - k := by omega
    have htl' : (l.take k).length = k := by rw [List.length_take, hR.len]; omega
    have hdl' : (l.drop k).length = n - k := by rw [List.length_drop, hR.len]
    have htl0 := Lib.hid htl'
    have hdl0 := Lib.hid hdl'
    clear hk hpk htl' hdl'
    go_enter Try.func5, Try.ntmps5
    go_upto_region 6 with (first | (go_at_call 11; refine (awake01_any _).mono ?_; rintro e w1 ⟨rfl, hb1⟩) | (go_at_call 12; refine (Pick_nat _ _ k _ Hk.out h1 h2 (by omega)).mono ?_; rintro e w3 ⟨rfl, rfl⟩))
    go_cut [54] from 28 to 54 (fun v54 wx => v54 = .bool false ∧ Below w.heap.size w wx)
    case first Jx Kx hJ hM =>
      have hR3 : ∀ w3, Grow w1 w3 → BytesAt w3 w3.heap.size A n l := fun w3 hg => (hR.below (hb1.trans (hg.mono hb1.size))).more (Nat.le_trans hb1.size hg.size)
      have htl := htl0.out
      have hdl := hdl0.out
      refine wp_region_facts (by kernel_rfl) (Facts [.is (.slice A n c), .is (.int .i64 (k : Int)), .bytes (l.take k), .is (.slice A n c), .is (.int .i64 (k : Int)), .bytes (l.drop k), .rows [l.take k, l.drop k], .is (.int .u32 ((sum l).toNat : Int)), .is (.slice A n c), .rows [l], .is (.int .u32 ((sum l).toNat : Int)), .is (.bool false), .is (.bool false), .is (.slice A n c), .is (.int .i64 (k : Int)), .bytes (l.take k), .rows [l.take k], .is (.int .u32 ((sum (l.take k)).toNat : Int)), .is (.slice A n c), .is (.int .i64 (k : Int)), .bytes (l.drop k), .is (.int .u32 ((sum l).toNat : Int)), .is (.slice A n c), .rows [l], .is (.int .u32 ((sum l).toNat : Int)), .is (.bool false), .is (.bool false)]) (Facts.mono _) (by kernel_rfl) ?_ ?_
      · refine ⟨?_, ?_, ?_, ?_, ?_, ?_, ?_, ?_, ?_, ?_, ?_, ?_, ?_, ?_, ?_, ?_, ?_, ?_, ?_, ?_, ?_, ?_, ?_, ?_, ?_, ?_, ?_, trivial⟩
        · refine stepOf_wanted (fun _ _ _ _ _ => wanted_none rfl) ?_
          intro us w3 a' ha hg hd K hK
          have q0 : a'.tmps[0]? = some (.slice A n c) := by rw [ha.out]; kernel_rfl
          exact step_value (w2 := w3) (by go_simp) (hK _ _ (Grow.refl _) rfl)
        · refine stepOf_wanted (fun _ _ _ _ _ => wanted_none rfl) ?_
          intro us w3 a' ha hg hd K hK
          have q7 : a'.tmps[7]? = some (.int .i64 (k : Int)) := by rw [ha.out]; kernel_rfl
          exact step_value (w2 := w3) (by go_simp) (hK _ _ (Grow.refl _) rfl)
        · refine stepOf_wanted (fun _ _ _ _ _ => wanted_none rfl) ?_
          intro us w3 a' ha hg hd K hK
          obtain ⟨d0, d1, _⟩ := hd
          have q28 : a'.tmps[28]? = some (us 0) := by rw [ha.out]; kernel_rfl
          rw [show us 0 = .slice A n c from d0] at q28
          have q29 : a'.tmps[29]? = some (us 1) := by rw [ha.out]; kernel_rfl
          rw [show us 1 = .int .i64 (k : Int) from d1] at q29
          refine step_cut_head bytesTy rfl q28 q29 k rfl hkc (hK _ _ (Grow.refl _) ?_)
          exact ⟨A, c, by rw [htl], by rw [htl]; exact hkc, hc0, by rw [htl]; exact (hR3 w3 hg).head k hkn⟩
        · refine stepOf_wanted (fun _ _ _ _ _ => wanted_none rfl) ?_
          intro us w3 a' ha hg hd K hK
          have q0 : a'.tmps[0]? = some (.slice A n c) := by rw [ha.out]; kernel_rfl
          exact step_value (w2 := w3) (by go_simp) (hK _ _ (Grow.refl _) rfl)
        · refine stepOf_wanted (fun _ _ _ _ _ => wanted_none rfl) ?_
          intro us w3 a' ha hg hd K hK
          have q7 : a'.tmps[7]? = some (.int .i64 (k : Int)) := by rw [ha.out]; kernel_rfl
          exact step_value (w2 := w3) (by go_simp) (hK _ _ (Grow.refl _) rfl)
        · refine stepOf_wanted (fun _ _ _ _ _ => wanted_none rfl) ?_
          intro us w3 a' ha hg hd K hK
          obtain ⟨d3, d4, _⟩ := hd
          have q31 : a'.tmps[31]? = some (us 3) := by rw [ha.out]; kernel_rfl
          rw [show us 3 = .slice A n c from d3] at q31
          have q32 : a'.tmps[32]? = some (us 4) := by rw [ha.out]; kernel_rfl
          rw [show us 4 = .int .i64 (k : Int) from d4] at q32
          refine step_cut_tail bytesTy rfl q31 q32 k rfl hkn (hK _ _ (Grow.refl _) ?_)
          exact ⟨_, _, by rw [hdl], by rw [hdl]; exact hkc2, Nat.le_trans (Nat.sub_le _ _) hc0, by rw [hdl]; exact (hR3 w3 hg).tail k hkn hnc⟩
        · refine stepOf_wanted (fun _ _ _ _ _ => wanted_none rfl) ?_
          intro us w3 a' ha hg hd K hK
          obtain ⟨⟨A2, c2, u2, l2, m2, b2⟩, ⟨A5, c5, u5, l5, m5, b5⟩, _⟩ := hd
          have q30 : a'.tmps[30]? = some (us 2) := by rw [ha.out]; kernel_rfl
          rw [u2] at q30
          have q33 : a'.tmps[33]? = some (us 5) := by rw [ha.out]; kernel_rfl
          rw [u5] at q33
          refine step_value (v := .slice (some ⟨w3.heap.size, 0, none⟩) 2 2) (w2 := w3.alloc (.cells ([(A2, (l.take k).length, c2), (A5, (l.drop k).length, c5)].map sliceOf).toArray 22)) (by go_simp; rfl) (hK _ _ (Grow.alloc _ _) ?_)
          exact ⟨_, _, rfl, by have := RowsAt.made w3 22 [(A2, (l.take k).length, c2), (A5, (l.drop k).length, c5)] [l.take k, l.drop k] ⟨⟨l2, m2, b2⟩, ⟨l5, m5, b5⟩, trivial⟩; exact this.more (by simp)⟩
        · refine stepOf_wanted (fun _ _ _ _ _ => wanted_none rfl) ?_
          intro us w3 a' ha hg hd K hK
          obtain ⟨⟨A6, c6, u6, r6⟩, _⟩ := hd
          have q34 : a'.tmps[34]? = some (us 6) := by rw [ha.out]; kernel_rfl
          rw [u6] at q34
          refine step_call (f := 13) (args := #[.slice A6 2 c6]) (by go_simp) ?_
          refine (Sum_any w3 w3.heap.size A6 2 c6 [l.take k, l.drop k] r6 (Nat.le_refl _) (by unfold maxLen; omega)).mono ?_
          rintro e w4 ⟨rfl, hb⟩
          exact ⟨_, rfl, hK _ _ hb (show _ = _ by simp)⟩
        · refine stepOf_wanted (fun _ _ _ _ _ => wanted_none rfl) ?_
          intro us w3 a' ha hg hd K hK
          have q0 : a'.tmps[0]? = some (.slice A n c) := by rw [ha.out]; kernel_rfl
          exact step_value (w2 := w3) (by go_simp) (hK _ _ (Grow.refl _) rfl)
        · refine stepOf_wanted (fun _ _ _ _ _ => wanted_none rfl) ?_
          intro us w3 a' ha hg hd K hK
          obtain ⟨d8, _⟩ := hd
          have q36 : a'.tmps[36]? = some (us 8) := by rw [ha.out]; kernel_rfl
          rw [show us 8 = .slice A n c from d8] at q36
          refine step_value (v := .slice (some ⟨w3.heap.size, 0, none⟩) 1 1) (w2 := w3.alloc (.cells ([(A, n, c)].map sliceOf).toArray 22)) (by go_simp; rfl) (hK _ _ (Grow.alloc _ _) ?_)
          exact ⟨_, _, rfl, by have := RowsAt.made w3 22 [(A, n, c)] [l] ⟨⟨hnc, hc0, hR3 w3 hg⟩, trivial⟩; exact this.more (by simp)⟩
        · refine stepOf_wanted (fun _ _ _ _ _ => wanted_none rfl) ?_
          intro us w3 a' ha hg hd K hK
          obtain ⟨⟨A9, c9, u9, r9⟩, _, _⟩ := hd
          have q37 : a'.tmps[37]? = some (us 9) := by rw [ha.out]; kernel_rfl
          rw [u9] at q37
          refine step_call (f := 13) (args := #[.slice A9 1 c9]) (by go_simp) ?_
          refine (Sum_any w3 w3.heap.size A9 1 c9 [l] r9 (Nat.le_refl _) (by unfold maxLen; omega)).mono ?_
          rintro e w4 ⟨rfl, hb⟩
          exact ⟨_, rfl, hK _ _ hb (show _ = _ by simp)⟩
        · refine stepOf_wanted (fun _ _ _ _ _ => wanted_none rfl) ?_
          intro us w3 a' ha hg hd K hK
          obtain ⟨d7, d10, _⟩ := hd
          have q35 : a'.tmps[35]? = some (us 7) := by rw [ha.out]; kernel_rfl
          rw [show us 7 = .int .u32 ((sum l).toNat : Int) from d7] at q35
          have q38 : a'.tmps[38]? = some (us 10) := by rw [ha.out]; kernel_rfl
          rw [show us 10 = .int .u32 ((sum l).toNat : Int) from d10] at q38
          refine step_value (v := .bool false) (w2 := w3) ?_ (hK _ _ (Grow.refl _) rfl)
          go_simp
        · refine stepOf_wanted (fun _ _ _ _ _ => wanted_none rfl) ?_
          intro us w3 a' ha hg hd K hK
          obtain ⟨d11, _, _⟩ := hd
          have q39 : a'.tmps[39]? = some (us 11) := by rw [ha.out]; kernel_rfl
          rw [show us 11 = .bool false from d11] at q39
          exact step_value (w2 := w3) (by go_simp) (hK _ _ (Grow.refl _) rfl)
        · refine stepOf_wanted (fun us w3 a' ha hd => ?_) ?_
          · obtain ⟨d12, _⟩ := hd
            have q : a'.tmps[40]? = some (us 12) := by rw [ha.out]; kernel_rfl
            rw [show us 12 = .bool false from d12] at q
            exact wanted_some rfl rfl q
          intro us w3 a' ha hg hd K hK
          have q0 : a'.tmps[0]? = some (.slice A n c) := by rw [ha.out]; kernel_rfl
          exact step_value (w2 := w3) (by go_simp) (hK _ _ (Grow.refl _) rfl)
        · refine stepOf_wanted (fun us w3 a' ha hd => ?_) ?_
          · obtain ⟨d12, _⟩ := hd
            have q : a'.tmps[40]? = some (us 12) := by rw [ha.out]; kernel_rfl
            rw [show us 12 = .bool false from d12] at q
            exact wanted_some rfl rfl q
          intro us w3 a' ha hg hd K hK
          have q7 : a'.tmps[7]? = some (.int .i64 (k : Int)) := by rw [ha.out]; kernel_rfl
          exact step_value (w2 := w3) (by go_simp) (hK _ _ (Grow.refl _) rfl)
        · refine stepOf_wanted (fun us w3 a' ha hd => ?_) ?_
          · obtain ⟨_, _, d12, _⟩ := hd
            have q : a'.tmps[40]? = some (us 12) := by rw [ha.out]; kernel_rfl
            rw [show us 12 = .bool false from d12] at q
            exact wanted_some rfl rfl q
          intro us w3 a' ha hg hd K hK
          obtain ⟨d13, d14, _, _⟩ := hd
          have q41 : a'.tmps[41]? = some (us 13) := by rw [ha.out]; kernel_rfl
          rw [show us 13 = .slice A n c from d13] at q41
          have q42 : a'.tmps[42]? = some (us 14) := by rw [ha.out]; kernel_rfl
          rw [show us 14 = .int .i64 (k : Int) from d14] at q42
          refine step_cut_head bytesTy rfl q41 q42 k rfl hkc (hK _ _ (Grow.refl _) ?_)
          exact ⟨A, c, by rw [htl], by rw [htl]; exact hkc, hc0, by rw [htl]; exact (hR3 w3 hg).head k hkn⟩
        · refine stepOf_wanted (fun us w3 a' ha hd => ?_) ?_
          · obtain ⟨_, d12, _⟩ := hd
            have q : a'.tmps[40]? = some (us 12) := by rw [ha.out]; kernel_rfl
            rw [show us 12 = .bool false from d12] at q
            exact wanted_some rfl rfl q
          intro us w3 a' ha hg hd K hK
          obtain ⟨⟨A15, c15, u15, l15, m15, b15⟩, _, _⟩ := hd
          have q43 : a'.tmps[43]? = some (us 15) := by rw [ha.out]; kernel_rfl
          rw [u15] at q43
          refine step_value (v := .slice (some ⟨w3.heap.size, 0, none⟩) 1 1) (w2 := w3.alloc (.cells ([(A15, (l.take k).length, c15)].map sliceOf).toArray 22)) (by go_simp; rfl) (hK _ _ (Grow.alloc _ _) ?_)
          exact ⟨_, _, rfl, by have := RowsAt.made w3 22 [(A15, (l.take k).length, c15)] [l.take k] ⟨⟨l15, m15, b15⟩, trivial⟩; exact this.more (by simp)⟩
        · refine stepOf_wanted (fun us w3 a' ha hd => ?_) ?_
          · obtain ⟨_, d12, _, _⟩ := hd
            have q : a'.tmps[40]? = some (us 12) := by rw [ha.out]; kernel_rfl
            rw [show us 12 = .bool false from d12] at q
            exact wanted_some rfl rfl q
          intro us w3 a' ha hg hd K hK
          obtain ⟨⟨A16, c16, u16, r16⟩, _, _, _⟩ := hd
          have q44 : a'.tmps[44]? = some (us 16) := by rw [ha.out]; kernel_rfl
          rw [u16] at q44
          refine step_call (f := 13) (args := #[.slice A16 1 c16]) (by go_simp) ?_
          refine (Sum_any w3 w3.heap.size A16 1 c16 [l.take k] r16 (Nat.le_refl _) (by unfold maxLen; omega)).mono ?_
          rintro e w4 ⟨rfl, hb⟩
          exact ⟨_, rfl, hK _ _ hb (show _ = _ by simp)⟩
        · refine stepOf_wanted (fun us w3 a' ha hd => ?_) ?_
          · obtain ⟨d12, _⟩ := hd
            have q : a'.tmps[40]? = some (us 12) := by rw [ha.out]; kernel_rfl
            rw [show us 12 = .bool false from d12] at q
            exact wanted_some rfl rfl q
          intro us w3 a' ha hg hd K hK
          have q0 : a'.tmps[0]? = some (.slice A n c) := by rw [ha.out]; kernel_rfl
          exact step_value (w2 := w3) (by go_simp) (hK _ _ (Grow.refl _) rfl)
        · refine stepOf_wanted (fun us w3 a' ha hd => ?_) ?_
          · obtain ⟨d12, _⟩ := hd
            have q : a'.tmps[40]? = some (us 12) := by rw [ha.out]; kernel_rfl
            rw [show us 12 = .bool false from d12] at q
            exact wanted_some rfl rfl q
          intro us w3 a' ha hg hd K hK
          have q7 : a'.tmps[7]? = some (.int .i64 (k : Int)) := by rw [ha.out]; kernel_rfl
          exact step_value (w2 := w3) (by go_simp) (hK _ _ (Grow.refl _) rfl)
        · refine stepOf_wanted (fun us w3 a' ha hd => ?_) ?_
          · obtain ⟨_, _, d12, _⟩ := hd
            have q : a'.tmps[40]? = some (us 12) := by rw [ha.out]; kernel_rfl
            rw [show us 12 = .bool false from d12] at q
            exact wanted_some rfl rfl q
          intro us w3 a' ha hg hd K hK
          obtain ⟨d18, d19, _, _⟩ := hd
          have q46 : a'.tmps[46]? = some (us 18) := by rw [ha.out]; kernel_rfl
          rw [show us 18 = .slice A n c from d18] at q46
          have q47 : a'.tmps[47]? = some (us 19) := by rw [ha.out]; kernel_rfl
          rw [show us 19 = .int .i64 (k : Int) from d19] at q47
          refine step_cut_tail bytesTy rfl q46 q47 k rfl hkn (hK _ _ (Grow.refl _) ?_)
          exact ⟨_, _, by rw [hdl], by rw [hdl]; exact hkc2, Nat.le_trans (Nat.sub_le _ _) hc0, by rw [hdl]; exact (hR3 w3 hg).tail k hkn hnc⟩
        · refine stepOf_wanted (fun us w3 a' ha hd => ?_) ?_
          · obtain ⟨_, _, _, d12, _⟩ := hd
            have q : a'.tmps[40]? = some (us 12) := by rw [ha.out]; kernel_rfl
            rw [show us 12 = .bool false from d12] at q
            exact wanted_some rfl rfl q
          intro us w3 a' ha hg hd K hK
          obtain ⟨d17, ⟨A20, c20, u20, l20, m20, b20⟩, _, _, _⟩ := hd
          have q45 : a'.tmps[45]? = some (us 17) := by rw [ha.out]; kernel_rfl
          rw [show us 17 = .int .u32 ((sum (l.take k)).toNat : Int) from d17] at q45
          have q48 : a'.tmps[48]? = some (us 20) := by rw [ha.out]; kernel_rfl
          rw [u20] at q48
          refine step_call (f := 15) (args := #[.int .u32 ((sum (l.take k)).toNat : Int), .slice A20 (l.drop k).length c20]) (by go_simp) ?_
          refine (Update_any w3 w3.heap.size (sum (l.take k)) A20 _ c20 (l.drop k) b20 (Nat.le_refl _) l20 m20).mono ?_
          rintro e w4 ⟨rfl, hb⟩
          exact ⟨_, rfl, hK _ _ hb (show _ = _ by rw [upd_sum])⟩
        · refine stepOf_wanted (fun us w3 a' ha hd => ?_) ?_
          · obtain ⟨d12, _⟩ := hd
            have q : a'.tmps[40]? = some (us 12) := by rw [ha.out]; kernel_rfl
            rw [show us 12 = .bool false from d12] at q
            exact wanted_some rfl rfl q
          intro us w3 a' ha hg hd K hK
          have q0 : a'.tmps[0]? = some (.slice A n c) := by rw [ha.out]; kernel_rfl
          exact step_value (w2 := w3) (by go_simp) (hK _ _ (Grow.refl _) rfl)
        · refine stepOf_wanted (fun us w3 a' ha hd => ?_) ?_
          · obtain ⟨_, d12, _⟩ := hd
            have q : a'.tmps[40]? = some (us 12) := by rw [ha.out]; kernel_rfl
            rw [show us 12 = .bool false from d12] at q
            exact wanted_some rfl rfl q
          intro us w3 a' ha hg hd K hK
          obtain ⟨d22, _, _⟩ := hd
          have q50 : a'.tmps[50]? = some (us 22) := by rw [ha.out]; kernel_rfl
          rw [show us 22 = .slice A n c from d22] at q50
          refine step_value (v := .slice (some ⟨w3.heap.size, 0, none⟩) 1 1) (w2 := w3.alloc (.cells ([(A, n, c)].map sliceOf).toArray 22)) (by go_simp; rfl) (hK _ _ (Grow.alloc _ _) ?_)
          exact ⟨_, _, rfl, by have := RowsAt.made w3 22 [(A, n, c)] [l] ⟨⟨hnc, hc0, hR3 w3 hg⟩, trivial⟩; exact this.more (by simp)⟩
        · refine stepOf_wanted (fun us w3 a' ha hd => ?_) ?_
          · obtain ⟨_, _, d12, _⟩ := hd
            have q : a'.tmps[40]? = some (us 12) := by rw [ha.out]; kernel_rfl
            rw [show us 12 = .bool false from d12] at q
            exact wanted_some rfl rfl q
          intro us w3 a' ha hg hd K hK
          obtain ⟨⟨A23, c23, u23, r23⟩, _, _, _⟩ := hd
          have q51 : a'.tmps[51]? = some (us 23) := by rw [ha.out]; kernel_rfl
          rw [u23] at q51
          refine step_call (f := 13) (args := #[.slice A23 1 c23]) (by go_simp) ?_
          refine (Sum_any w3 w3.heap.size A23 1 c23 [l] r23 (Nat.le_refl _) (by unfold maxLen; omega)).mono ?_
          rintro e w4 ⟨rfl, hb⟩
          exact ⟨_, rfl, hK _ _ hb (show _ = _ by simp)⟩
        · refine stepOf_wanted (fun us w3 a' ha hd => ?_) ?_
          · obtain ⟨_, _, d12, _⟩ := hd
            have q : a'.tmps[40]? = some (us 12) := by rw [ha.out]; kernel_rfl
            rw [show us 12 = .bool false from d12] at q
            exact wanted_some rfl rfl q
          intro us w3 a' ha hg hd K hK
          obtain ⟨d21, d24, _, _⟩ := hd
          have q49 : a'.tmps[49]? = some (us 21) := by rw [ha.out]; kernel_rfl
          rw [show us 21 = .int .u32 ((sum l).toNat : Int) from d21] at q49
          have q52 : a'.tmps[52]? = some (us 24) := by rw [ha.out]; kernel_rfl
          rw [show us 24 = .int .u32 ((sum l).toNat : Int) from d24] at q52
          refine step_value (v := .bool false) (w2 := w3) ?_ (hK _ _ (Grow.refl _) rfl)
          go_simp
        · refine stepOf_wanted (fun _ _ _ _ _ => wanted_none rfl) ?_
          intro us w3 a' ha hg hd K hK
          obtain ⟨d12, d25, _⟩ := hd
          have q40 : a'.tmps[40]? = some (us 12) := by rw [ha.out]; kernel_rfl
          rw [show us 12 = .bool false from d12] at q40
          have q53 : a'.tmps[53]? = some (us 25) := by rw [ha.out]; kernel_rfl
          rw [show us 25 = .bool false from d25] at q53
          refine step_value (v := .bool false) (w2 := w3) ?_ (hK _ _ (Grow.refl _) rfl)
          go_simp
      · intro us w3 hg hf
        have h54 : us 26 = .bool false := hf 26 (by decide)
        exact hM _ _ (Met.intro (hJ _ _ ⟨us 0, us 1, us 2, us 3, us 4, us 5, us 6, us 7, us 8, us 9, us 10, us 11, us 12, us 13, us 14, us 15, us 16, us 17, us 18, us 19, us 20, us 21, us 22, us 23, us 24, us 25, us 26, ⟨h54, hb1.trans (hg.mono hb1.size)⟩, by kernel_rfl⟩))
    case rest =>
      obtain ⟨rfl, hbw⟩ := hcut
      have hmk := fun W => run_make_cells (P := Try.prog) bytesTy rfl .i64 .i64 n (by omega) (by omega) W
      go_upto_region 8 with (fail)
      go_cut [8, 9] from 55 to 60 (fun v8 v9 wx => ∃ g8 g9, v8 = .slice (some ⟨g8, 0, none⟩) n n ∧ v9 = .slice (some ⟨g9, 0, none⟩) n n ∧ Two w wx n g8 g9 (List.replicate n 0) 0 l l2)
      case first Jx Kx hJ hM =>
        go_region
        · refine hM _ _ (Met.intro (hJ _ _ ?_))
          repeat apply Exists.intro
          exact ⟨⟨wc.heap.size, wc.heap.size + 1, rfl, rfl, Two.start1 hbw⟩, rfl⟩
        · refine hM _ _ (Met.intro (hJ _ _ ?_))
          repeat apply Exists.intro
          exact ⟨⟨wc.heap.size + 1, wc.heap.size, rfl, rfl, Two.start2 hbw⟩, rfl⟩
      case rest =>
        obtain ⟨g8, g9, rfl, rfl, hT⟩ := hcut
        clear hmk
        go_wp2
        go_loopw [10] (fun v10 wr => ∃ (i : Nat) (X : List UInt8), i ≤ n ∧ v10 = .int .i64 (i : Int) ∧ Two w wr n g8 g9 X i l l2) (fun v10 _ => n - (intOf v10).toNat)
        case atStart => exact ⟨0, _, by omega, rfl, hT⟩
        case round =>
          clear hT
          obtain ⟨i, X, hi, rfl, hT⟩ := hrel
          by_cases hlt : i < n
          · obtain ⟨b, off, rfl, hb, hcl⟩ := hR.at_ (by omega)
            obtain ⟨b2, off2, rfl, hb2, hcl2⟩ := hR2.at_ (by omega)
            obtain ⟨x, hx⟩ : ∃ x, l[i]? = some x := ⟨_, List.getElem?_eq_getElem (by rw [hR.len]; exact hlt)⟩
            obtain ⟨y, hy⟩ : ∃ y, l2[i]? = some y := ⟨_, List.getElem?_eq_getElem (by rw [hR2.len]; omega)⟩
            have hcx := (hT.below.cell (p := ⟨b, off + i, none⟩) hb).trans (hcl i x hx)
            have hcy := (hT.below.cell (p := ⟨b2, off2 + i, none⟩) hb2).trans (hcl2 i y hy)
            obtain ⟨o, ho⟩ : ∃ o, wr.cell? ⟨g8, i, none⟩ = some o := by
              have hl8 : i < X.length := by rw [hT.len]; exact hlt
              exact ⟨b8 X[i], by rw [hT.x.cell]; simp [hl8]⟩
            have hfr := hT.x.frozen i
            have he := xor_u8 x y
            have hlt2 : i < n2 := by omega
            have Hx := Lib.hid hx
            have Hy := Lib.hid hy
            clear hcl hcl2 hx hy
            go_wp2
            go_still_tail 12, (by kernel_rfl)
            change wpList _ _ _ _ _ wr.drew
            go_wp2
            go_roundw
            case rel => exact ⟨i + 1, _, by omega, by go_num, hT.next hlt Hx.out Hy.out⟩
            case measure => simp [intOf]; omega
          · obtain rfl : i = n := by omega
            have hRl : ∀ w3, Grow wr w3 → BytesAt w3 w3.heap.size A i l := fun w3 hg => (hR.below (hT.below.trans (hg.mono hT.below.size))).more (Nat.le_trans hT.below.size hg.size)
            have hRl2 : ∀ w3, Grow wr w3 → BytesAt w3 w3.heap.size A2 n2 l2 := fun w3 hg => (hR2.below (hT.below.trans (hg.mono hT.below.size))).more (Nat.le_trans hT.below.size hg.size)
            have hRx : ∀ w3, Grow wr w3 → BytesAt w3 w3.heap.size (some ⟨g8, 0, none⟩) i X := fun w3 hg => Blk.bytesAt (hT.x.below hg hT.x.lt) hT.len
            have hRz : ∀ w3, Grow wr w3 → BytesAt w3 w3.heap.size (some ⟨g9, 0, none⟩) i (List.replicate i 0) := fun w3 hg => Blk.bytesAt (hT.z.below hg hT.z.lt) (by simp)
            have hlin := sum_linear X l (l2.take i) (List.replicate i 0) (by rw [hR.len, hT.len]) (by rw [List.length_take, hR2.len, hT.len]; omega) (by simp [hT.len]) (fun j hj => by
              rw [hT.len] at hj
              rw [hT.eq j hj, List.getD_eq_getElem?_getD (l := l2.take i), List.getElem?_take, if_pos hj, ← List.getD_eq_getElem?_getD]) (fun j _ => by rw [List.getD_eq_getElem?_getD, List.getElem?_replicate]; split <;> rfl)
            have ht2' : (l2.take i).length = i := by rw [List.length_take, hR2.len]; omega
            have hnm : i ≤ maxLen := by unfold maxLen; omega
            have hnc2b : i ≤ c2 := by omega
            obtain ⟨Y1, hy1⟩ : ∃ Y, Y = sum l ^^^ sum (l2.take i) := ⟨_, rfl⟩
            obtain ⟨Y2, hy2⟩ : ∃ Y, Y = Y1 ^^^ sum (List.replicate i 0) := ⟨_, rfl⟩
            rw [← hy1, ← hy2] at hlin
            have hY1 := Lib.hid (show bits BinOp.xor IntKind.u32 ((sum l).toNat : Int) ((sum (l2.take i)).toNat : Int) = (Y1.toNat : Int) by rw [hy1]; exact xor_u32 _ _)
            have hY2 := Lib.hid (show bits BinOp.xor IntKind.u32 (Y1.toNat : Int) ((sum (List.replicate i (0 : UInt8))).toNat : Int) = (Y2.toNat : Int) by rw [hy2]; exact xor_u32 _ _)
            have hlin0 := Lib.hid hlin
            have ht20 := Lib.hid ht2'
            have hbT := hT.below
            clear hlin ht2' hy1 hy2
            go_upto_region 13 with (fail)
            go_cut [6] from 79 to 96 (fun v6 wx => v6 = .bool true ∧ Below w.heap.size w wx)
            case first Jx Kx hJ hM =>
              have ht2 := ht20.out
              refine wp_region_facts (by kernel_rfl) (Facts [.is (.slice (some ⟨g8, 0, none⟩) i i), .rows [X], .is (.int .u32 ((sum X).toNat : Int)), .is (.slice A i c), .rows [l], .is (.int .u32 ((sum l).toNat : Int)), .is (.slice A2 n2 c2), .is (.slice A i c), .is (.int .i64 (i : Int)), .bytes (l2.take i), .rows [l2.take i], .is (.int .u32 ((sum (l2.take i)).toNat : Int)), .is (.int .u32 ((Y1).toNat : Int)), .is (.slice (some ⟨g9, 0, none⟩) i i), .rows [(List.replicate i (0 : UInt8))], .is (.int .u32 ((sum (List.replicate i (0 : UInt8))).toNat : Int)), .is (.int .u32 ((Y2).toNat : Int)), .is (.bool true), .is (.bool true)]) (Facts.mono _) (by kernel_rfl) ?_ ?_
              · refine ⟨?_, ?_, ?_, ?_, ?_, ?_, ?_, ?_, ?_, ?_, ?_, ?_, ?_, ?_, ?_, ?_, ?_, ?_, ?_, trivial⟩
                · refine stepOf_wanted (fun _ _ _ _ _ => wanted_none rfl) ?_
                  intro us w3 a' ha hg hd K hK
                  have q8 : a'.tmps[8]? = some (.slice (some ⟨g8, 0, none⟩) i i) := by rw [ha.out]; kernel_rfl
                  exact step_value (w2 := w3) (by go_simp) (hK _ _ (Grow.refl _) rfl)
                · refine stepOf_wanted (fun _ _ _ _ _ => wanted_none rfl) ?_
                  intro us w3 a' ha hg hd K hK
                  obtain ⟨d0, _⟩ := hd
                  have q79 : a'.tmps[79]? = some (us 0) := by rw [ha.out]; kernel_rfl
                  rw [show us 0 = .slice (some ⟨g8, 0, none⟩) i i from d0] at q79
                  refine step_value (v := .slice (some ⟨w3.heap.size, 0, none⟩) 1 1) (w2 := w3.alloc (.cells ([(some ⟨g8, 0, none⟩, i, i)].map sliceOf).toArray 22)) (by go_simp; rfl) (hK _ _ (Grow.alloc _ _) ?_)
                  exact ⟨_, _, rfl, by have := RowsAt.made w3 22 [(some ⟨g8, 0, none⟩, i, i)] [X] ⟨⟨Nat.le_refl _, hnm, hRx w3 hg⟩, trivial⟩; exact this.more (by simp)⟩
                · refine stepOf_wanted (fun _ _ _ _ _ => wanted_none rfl) ?_
                  intro us w3 a' ha hg hd K hK
                  obtain ⟨⟨A1, c1, u1, r1⟩, _⟩ := hd
                  have q80 : a'.tmps[80]? = some (us 1) := by rw [ha.out]; kernel_rfl
                  rw [u1] at q80
                  refine step_call (f := 13) (args := #[.slice A1 1 c1]) (by go_simp) ?_
                  refine (Sum_any w3 w3.heap.size A1 1 c1 [X] r1 (Nat.le_refl _) (by unfold maxLen; omega)).mono ?_
                  rintro e w4 ⟨rfl, hb⟩
                  exact ⟨_, rfl, hK _ _ hb (show _ = _ by simp)⟩
                · refine stepOf_wanted (fun _ _ _ _ _ => wanted_none rfl) ?_
                  intro us w3 a' ha hg hd K hK
                  have q0 : a'.tmps[0]? = some (.slice A i c) := by rw [ha.out]; kernel_rfl
                  exact step_value (w2 := w3) (by go_simp) (hK _ _ (Grow.refl _) rfl)
                · refine stepOf_wanted (fun _ _ _ _ _ => wanted_none rfl) ?_
                  intro us w3 a' ha hg hd K hK
                  obtain ⟨d3, _⟩ := hd
                  have q82 : a'.tmps[82]? = some (us 3) := by rw [ha.out]; kernel_rfl
                  rw [show us 3 = .slice A i c from d3] at q82
                  refine step_value (v := .slice (some ⟨w3.heap.size, 0, none⟩) 1 1) (w2 := w3.alloc (.cells ([(A, i, c)].map sliceOf).toArray 22)) (by go_simp; rfl) (hK _ _ (Grow.alloc _ _) ?_)
                  exact ⟨_, _, rfl, by have := RowsAt.made w3 22 [(A, i, c)] [l] ⟨⟨hnc, hc0, hRl w3 hg⟩, trivial⟩; exact this.more (by simp)⟩
                · refine stepOf_wanted (fun _ _ _ _ _ => wanted_none rfl) ?_
                  intro us w3 a' ha hg hd K hK
                  obtain ⟨⟨A4, c4, u4, r4⟩, _, _⟩ := hd
                  have q83 : a'.tmps[83]? = some (us 4) := by rw [ha.out]; kernel_rfl
                  rw [u4] at q83
                  refine step_call (f := 13) (args := #[.slice A4 1 c4]) (by go_simp) ?_
                  refine (Sum_any w3 w3.heap.size A4 1 c4 [l] r4 (Nat.le_refl _) (by unfold maxLen; omega)).mono ?_
                  rintro e w4 ⟨rfl, hb⟩
                  exact ⟨_, rfl, hK _ _ hb (show _ = _ by simp)⟩
                · refine stepOf_wanted (fun _ _ _ _ _ => wanted_none rfl) ?_
                  intro us w3 a' ha hg hd K hK
                  have q2 : a'.tmps[2]? = some (.slice A2 n2 c2) := by rw [ha.out]; kernel_rfl
                  exact step_value (w2 := w3) (by go_simp) (hK _ _ (Grow.refl _) rfl)
                · refine stepOf_wanted (fun _ _ _ _ _ => wanted_none rfl) ?_
                  intro us w3 a' ha hg hd K hK
                  have q0 : a'.tmps[0]? = some (.slice A i c) := by rw [ha.out]; kernel_rfl
                  exact step_value (w2 := w3) (by go_simp) (hK _ _ (Grow.refl _) rfl)
                · refine stepOf_wanted (fun _ _ _ _ _ => wanted_none rfl) ?_
                  intro us w3 a' ha hg hd K hK
                  obtain ⟨d7, _⟩ := hd
                  have q86 : a'.tmps[86]? = some (us 7) := by rw [ha.out]; kernel_rfl
                  rw [show us 7 = .slice A i c from d7] at q86
                  refine step_value (v := .int .i64 (i : Int)) (w2 := w3) ?_ (hK _ _ (Grow.refl _) rfl)
                  go_simp
                · refine stepOf_wanted (fun _ _ _ _ _ => wanted_none rfl) ?_
                  intro us w3 a' ha hg hd K hK
                  obtain ⟨d6, d8, _⟩ := hd
                  have q85 : a'.tmps[85]? = some (us 6) := by rw [ha.out]; kernel_rfl
                  rw [show us 6 = .slice A2 n2 c2 from d6] at q85
                  have q87 : a'.tmps[87]? = some (us 8) := by rw [ha.out]; kernel_rfl
                  rw [show us 8 = .int .i64 (i : Int) from d8] at q87
                  refine step_cut_head bytesTy rfl q85 q87 i rfl hnc2b (hK _ _ (Grow.refl _) ?_)
                  exact ⟨A2, c2, by rw [ht2], by rw [ht2]; exact hnc2b, hc20, by rw [ht2]; exact (hRl2 w3 hg).head i hn2⟩
                · refine stepOf_wanted (fun _ _ _ _ _ => wanted_none rfl) ?_
                  intro us w3 a' ha hg hd K hK
                  obtain ⟨⟨A9, c9, u9, l9, m9, b9⟩, _⟩ := hd
                  have q88 : a'.tmps[88]? = some (us 9) := by rw [ha.out]; kernel_rfl
                  rw [u9] at q88
                  refine step_value (v := .slice (some ⟨w3.heap.size, 0, none⟩) 1 1) (w2 := w3.alloc (.cells ([(A9, (l2.take i).length, c9)].map sliceOf).toArray 22)) (by go_simp; rfl) (hK _ _ (Grow.alloc _ _) ?_)
                  exact ⟨_, _, rfl, by have := RowsAt.made w3 22 [(A9, (l2.take i).length, c9)] [l2.take i] ⟨⟨l9, m9, b9⟩, trivial⟩; exact this.more (by simp)⟩
                · refine stepOf_wanted (fun _ _ _ _ _ => wanted_none rfl) ?_
                  intro us w3 a' ha hg hd K hK
                  obtain ⟨⟨A10, c10, u10, r10⟩, _, _⟩ := hd
                  have q89 : a'.tmps[89]? = some (us 10) := by rw [ha.out]; kernel_rfl
                  rw [u10] at q89
                  refine step_call (f := 13) (args := #[.slice A10 1 c10]) (by go_simp) ?_
                  refine (Sum_any w3 w3.heap.size A10 1 c10 [l2.take i] r10 (Nat.le_refl _) (by unfold maxLen; omega)).mono ?_
                  rintro e w4 ⟨rfl, hb⟩
                  exact ⟨_, rfl, hK _ _ hb (show _ = _ by simp)⟩
                · refine stepOf_wanted (fun _ _ _ _ _ => wanted_none rfl) ?_
                  intro us w3 a' ha hg hd K hK
                  obtain ⟨d5, d11, _⟩ := hd
                  have q84 : a'.tmps[84]? = some (us 5) := by rw [ha.out]; kernel_rfl
                  rw [show us 5 = .int .u32 ((sum l).toNat : Int) from d5] at q84
                  have q90 : a'.tmps[90]? = some (us 11) := by rw [ha.out]; kernel_rfl
                  rw [show us 11 = .int .u32 ((sum (l2.take i)).toNat : Int) from d11] at q90
                  have hx := hY1.out
                  refine step_value (v := .int .u32 ((Y1).toNat : Int)) (w2 := w3) ?_ (hK _ _ (Grow.refl _) rfl)
                  go_simp
                · refine stepOf_wanted (fun _ _ _ _ _ => wanted_none rfl) ?_
                  intro us w3 a' ha hg hd K hK
                  have q9 : a'.tmps[9]? = some (.slice (some ⟨g9, 0, none⟩) i i) := by rw [ha.out]; kernel_rfl
                  exact step_value (w2 := w3) (by go_simp) (hK _ _ (Grow.refl _) rfl)
                · refine stepOf_wanted (fun _ _ _ _ _ => wanted_none rfl) ?_
                  intro us w3 a' ha hg hd K hK
                  obtain ⟨d13, _⟩ := hd
                  have q92 : a'.tmps[92]? = some (us 13) := by rw [ha.out]; kernel_rfl
                  rw [show us 13 = .slice (some ⟨g9, 0, none⟩) i i from d13] at q92
                  refine step_value (v := .slice (some ⟨w3.heap.size, 0, none⟩) 1 1) (w2 := w3.alloc (.cells ([(some ⟨g9, 0, none⟩, i, i)].map sliceOf).toArray 22)) (by go_simp; rfl) (hK _ _ (Grow.alloc _ _) ?_)
                  exact ⟨_, _, rfl, by have := RowsAt.made w3 22 [(some ⟨g9, 0, none⟩, i, i)] [(List.replicate i (0 : UInt8))] ⟨⟨Nat.le_refl _, hnm, hRz w3 hg⟩, trivial⟩; exact this.more (by simp)⟩
                · refine stepOf_wanted (fun _ _ _ _ _ => wanted_none rfl) ?_
                  intro us w3 a' ha hg hd K hK
                  obtain ⟨⟨A14, c14, u14, r14⟩, _, _⟩ := hd
                  have q93 : a'.tmps[93]? = some (us 14) := by rw [ha.out]; kernel_rfl
                  rw [u14] at q93
                  refine step_call (f := 13) (args := #[.slice A14 1 c14]) (by go_simp) ?_
                  refine (Sum_any w3 w3.heap.size A14 1 c14 [(List.replicate i (0 : UInt8))] r14 (Nat.le_refl _) (by unfold maxLen; omega)).mono ?_
                  rintro e w4 ⟨rfl, hb⟩
                  exact ⟨_, rfl, hK _ _ hb (show _ = _ by simp)⟩
                · refine stepOf_wanted (fun _ _ _ _ _ => wanted_none rfl) ?_
                  intro us w3 a' ha hg hd K hK
                  obtain ⟨d12, d15, _⟩ := hd
                  have q91 : a'.tmps[91]? = some (us 12) := by rw [ha.out]; kernel_rfl
                  rw [show us 12 = .int .u32 ((Y1).toNat : Int) from d12] at q91
                  have q94 : a'.tmps[94]? = some (us 15) := by rw [ha.out]; kernel_rfl
                  rw [show us 15 = .int .u32 ((sum (List.replicate i (0 : UInt8))).toNat : Int) from d15] at q94
                  have hx := hY2.out
                  refine step_value (v := .int .u32 ((Y2).toNat : Int)) (w2 := w3) ?_ (hK _ _ (Grow.refl _) rfl)
                  go_simp
                · refine stepOf_wanted (fun _ _ _ _ _ => wanted_none rfl) ?_
                  intro us w3 a' ha hg hd K hK
                  obtain ⟨d2, d16, _⟩ := hd
                  have q81 : a'.tmps[81]? = some (us 2) := by rw [ha.out]; kernel_rfl
                  rw [show us 2 = .int .u32 ((sum X).toNat : Int) from d2] at q81
                  have q95 : a'.tmps[95]? = some (us 16) := by rw [ha.out]; kernel_rfl
                  rw [show us 16 = .int .u32 ((Y2).toNat : Int) from d16] at q95
                  rw [hlin0.out] at q81
                  refine step_value (v := .bool true) (w2 := w3) ?_ (hK _ _ (Grow.refl _) rfl)
                  go_simp
                · refine stepOf_wanted (fun _ _ _ _ _ => wanted_none rfl) ?_
                  intro us w3 a' ha hg hd K hK
                  obtain ⟨d17, _, _, _, _, _, _, _, _, _, _, _, _, _, _, _, _, _, _, _, _⟩ := hd
                  have q96 : a'.tmps[96]? = some (us 17) := by rw [ha.out]; kernel_rfl
                  rw [show us 17 = .bool true from d17] at q96
                  exact step_value (w2 := w3) (by go_simp) (hK _ _ (Grow.refl _) rfl)
              · intro us w3 hg hf
                have h6 : us 18 = .bool true := hf 18 (by decide)
                exact hM _ _ (Met.intro (hJ _ _ ⟨us 18, us 0, us 1, us 2, us 3, us 4, us 5, us 6, us 7, us 8, us 9, us 10, us 11, us 12, us 13, us 14, us 15, us 16, us 17, ⟨h6, hbT.trans (hg.mono hbT.size)⟩, by kernel_rfl⟩))
            case rest =>
              obtain ⟨rfl, hbx⟩ := hcut
              go_wp2
              go_ret
              exact ⟨rfl, hbx⟩
  · by_cases hb : n ≤ 20000
    · have hn2 : n2 < n := by omega
      clear hn
      go_enter Try.func5, Try.ntmps5
      go_wp2_with (go_at_call 11; refine (awake01_any _).mono ?_; rintro e w1 ⟨rfl, hb1⟩)
      all_goals (go_ret; exact ⟨rfl, hb1⟩)
    · clear hn
      have hb' : 20000 < n := by omega
      go_enter Try.func5, Try.ntmps5
      go_wp2_with (go_at_call 11; refine (awake01_any _).mono ?_; rintro e w1 ⟨rfl, hb1⟩)
      all_goals (go_ret; exact ⟨rfl, hb1⟩)
end Go.Proofs.Ytcjbeaohmgfgoaa
