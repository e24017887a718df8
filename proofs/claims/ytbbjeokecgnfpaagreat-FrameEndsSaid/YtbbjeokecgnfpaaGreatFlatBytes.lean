/-
  The walk of mudlarkkit's flatBytes: rows of bytes that lie apart are found to lie apart; only they turn.
-/
import Derived.StillTailTactics
import Derived.BigQuiet
import Derived.Deep.QuietTactic
import Derived.LoopTactic
import Derived.Test.YtbbjeokecgnfpaaGreatBaseE
import Derived.Test.YtbbjeokecgnfpaaGreatBaseC
import Derived.Test.YtbbjeokecgnfpaaGreatBaseA
import Derived.Deep.LoopGhost
import Derived.Deep.QuietTactic
import Derived.BigQuiet
import Derived.WalkMore
import Derived.IntWalk
import Derived.Laws.Shifts
import Derived.Test.YtbbjeokecgnfpaaGreatRange
import Derived.Test.YtbbjeokecgnfpaaGreatMarks
import Derived.Test.YtbbjeokecgnfpaaGreatBaseD
import Derived.Shelf.Abstract
import Derived.Shelf.RegionOpen
import Derived.OwnWalkIn
import Derived.TacticsInMore
import Derived.LoopNIn
import Derived.LoopIn
namespace Go.Proofs.YtbbjeokecgnfpaaGreat
open Go.RowKit

/-- the mark of a place among bytes, as a cell -/
def mkB (k j : Nat) : Value := .int .u8 ((markB (k : Int) (j : Int)).toNat : Int)
theorem mkB_one (k n : Nat) : ∀ u ∈ marksV mkB k n, u.oneCell' = true := fun u hu => by
  rw [marksV, List.mem_map] at hu
  obtain ⟨j, _, rfl⟩ := hu
  rfl

/-- each row holds its marks -/
def RowsMarked (w : World) (B : Nat) (vs : List Value) (N : Nat → Nat) : Prop := ∀ (j : Nat) (v : Value), vs[j]? = some v → w.ownsRow B 5 1 v (N j) (marksV mkB j (N j))
theorem RowsMarked.grow {w w' : World} {B : Nat} {vs : List Value} {N : Nat → Nat} (h : RowsMarked w B vs N) (hg : Grow w w') : RowsMarked w' B vs N := fun j v hv => own_below (h j v hv) hg
theorem markByte_still (k i : Int) (w : World) (hk : 0 ≤ k) (hk2 : k ≤ 1000000000000) (hi : 0 ≤ i) (hi2 : i ≤ 1000000000000000000) :
    Calls Tryz.prog 37 #[.int .i64 k, .int .i64 i] w fun e w' => e = .returned (.int .u8 ((markB k i).toNat : Int)) ∧ w' = w :=
  (markByte_any k i w hk hk2 hi hi2).mono fun _ _ ⟨h1, h2⟩ => ⟨h1, h2.symm⟩

theorem markByte_at (k j : Nat) (x : Int) (y : UInt8) (w : World) (hx : x = (j : Int)) (hy : mkB k j = .int .u8 (y.toNat : Int)) (hk : k ≤ 1000000000000) (hj : j ≤ 1000000000000000000) :
    Calls Tryz.prog 37 #[.int .i64 (k : Int), .int .i64 x] w fun e w' => e = .returned (.int .u8 (y.toNat : Int)) ∧ w = w' := by
  subst hx
  rw [← hy]
  exact markByte_any _ _ w (by omega) (by omega) (by omega) (by omega)

set_option maxRecDepth 100000 in
set_option maxHeartbeats 8000000 in
theorem flatBytes_any (w : World) (B Bt : Nat) (A : Option Addr) (m c : Nat) (vs : List Value) (N : Nat → Nat) (hT : w.ownsRow Bt 26 1 (.slice A m c) m vs) (hV : ∀ (j : Nat) (v : Value), vs[j]? = some v → ∃ L, w.ownsRow B 5 1 v (N j) L) (hd : DistV vs)
    (hB : B ≤ w.heap.size) (hm : m ≤ 1000000) (hN : ∀ j, N j ≤ 1000000000) :
    Calls Tryz.prog 59 #[.slice A m c] w fun e w' => e = .returned (.bool true) ∧ Keep (OwnS vs) w w' ∧ RowsMarked w' B vs N := by
  have bytesTy : AppTy Tryz.prog 26 5 (.int .u8 0) 1 1 := AppTy.mk' Tryz.underlying26 (by kernel_rfl) rfl (by decide)
  have hne : 5 ≠ 26 := by decide
  have HN := Lib.hid hN
  have Hd := Lib.hid hd
  have hvl : vs.length = m := by have := hT.1; omega
  have Hvl := Lib.hid hvl
  have hP0 : Ph1 5 26 mkB w w B Bt A m c vs N 0 0 := ⟨hT, fun j v hv => by
    obtain ⟨L, hL⟩ := hV j v hv
    exact ⟨L, hL, fun q _ h => by omega⟩, Keep.refl _ _⟩
  clear hN hd hvl hV hT
  go_enter Tryz.func59, Tryz.ntmps59
  go_wp2
  go_loopw [3] (fun v3 wr => ∃ k : Nat, k ≤ m ∧ v3 = .int .i64 (k : Int) ∧ Ph1 5 26 mkB w wr B Bt A m c vs N k 0) (fun v3 _ => m - (intOf v3).toNat)
  case atStart => exact ⟨0, by omega, rfl, hP0⟩
  case round =>
    clear hP0
    obtain ⟨k, hk, rfl, hP⟩ := hrel
    obtain ⟨wo, rfl⟩ : ∃ wo : World, wo = wr := ⟨_, rfl⟩
    by_cases hlt : k < m
    · obtain ⟨r, cap, e, -, -, -, -⟩ := own_slice hP.tab (by omega)
      injection e with e1 e2 e3
      subst e1 e3
      obtain ⟨v, hv⟩ : ∃ v, vs[k]? = some v := ⟨_, List.getElem?_eq_getElem (by rw [Hvl.out]; exact hlt)⟩
      obtain ⟨n, hn⟩ : ∃ n, n = N k := ⟨_, rfl⟩
      obtain ⟨A1, c1, rfl, -, -, -⟩ : ∃ A1 c1, v = .slice A1 n c1 ∧ n ≤ c1 ∧ c1 ≤ maxLen ∧ True := by
        obtain ⟨L, hL, _⟩ := hP.own k v hv
        obtain ⟨A1, c1, e, h1, h2, _⟩ := own_reads hL
        rw [hn]
        exact ⟨A1, c1, e, h1, h2, trivial⟩
      have hnb : n ≤ 1000000000 := by rw [hn]; exact HN.out k
      have Hv := Lib.hid hv
      have Hn := Lib.hid hn
      clear hv hn
      go_wp2
      go_loopw [4] (fun v4 wr => ∃ i : Nat, i ≤ n ∧ v4 = .int .i64 (i : Int) ∧ Ph1 5 26 mkB w wr B Bt (some ⟨r, 0, none⟩) m c vs N k i) (fun v4 _ => n - (intOf v4).toNat)
      case atStart => exact ⟨0, by omega, rfl, hP⟩
      case round =>
        clear hP
        obtain ⟨i, hi, rfl, hP⟩ := hrel
        have hcv := own_cell hP.tab Hv.out
        by_cases hli : i < n
        · obtain ⟨L, hL, -⟩ := hP.own k _ Hv.out
          rw [← Hn.out] at hL
          obtain ⟨b, cap, e, -, -, -, -⟩ := own_slice hL (by omega)
          injection e with e1 e2 e3
          subst e1 e3
          have hll : L.length = n := by have := hL.1; omega
          obtain ⟨x, hx⟩ : ∃ x, L[i]? = some x := ⟨_, List.getElem?_eq_getElem (by omega)⟩
          have hcx := own_cell hL hx
          have hfx := own_free hL i
          have hP2 := hP.store hne Hd.out (b := b) (cap := c1) (by rw [← Hn.out]; exact Hv.out) (by rw [← Hn.out]; exact hli)
          have HP2 := Lib.hid hP2
          clear hP2 hP hL hx hll
          go_wp2_with fail
          go_still_tail 9, (by kernel_rfl)
          still_call (markByte_still (k : Int) (i : Int) _ (by omega) (by omega) (by omega) (by omega))
          repeat still_step
          refine wpStill_nil ?_
          change wpList _ _ _ _ _ wr.drew
          go_wp2
          go_roundw
          case rel => exact ⟨i + 1, by omega, by go_num, HP2.out.grow (Grow.drew _)⟩
          case measure => simp [intOf]; omega
        · obtain rfl : i = n := by omega
          have hP2 := (show Ph1 5 26 mkB w wr B Bt (some ⟨r, 0, none⟩) m c vs N k (N k) by rw [← Hn.out]; exact hP).row
          clear hP
          go_wp2
          go_roundw
          case rel => exact ⟨k + 1, by omega, by go_num, hP2⟩
          case measure => simp [intOf]; omega
    · obtain rfl : m = k := by omega
      have hH0 := hP.keep.size
      have hfb0 : FB 5 26 mkB w (wo.alloc (.cells (List.replicate m (Value.slice none 0 0)).toArray 26)) B Bt A m c vs N wo.heap.size wo.heap.size (List.replicate m (Value.slice none 0 0)) :=
        ⟨own_below hP.tab (Grow.alloc _ _), fun j v hv => own_below (hP.done j v hv) (Grow.alloc _ _), Blk.new _ _ _, by simp, hP.keep.trans' (Keep.alloc _ _), hH0, by simp, Nat.le_refl _, (fun b ⟨j, v, hv, hb⟩ => ((hP.done j v hv).lt b hb).2), fun b hb => (hP.tab.lt b hb).2⟩
      have hmk := run_make_cells (P := Tryz.prog) (show AppTy Tryz.prog 34 26 (.slice none 0 0) 1 24 from AppTy.mk' Tryz.underlying34 (by kernel_rfl) rfl (by decide)) rfl .i64 .i64 m (by omega) (by omega) wo
      have hBo : B ≤ wo.heap.size := by omega
      obtain ⟨H0, hH⟩ : ∃ H0, H0 = wo.heap.size := ⟨_, rfl⟩
      clear hP hk hlt
      go_wp2_with fail
      rw [← hH] at hfb0 hBo ⊢
      have HH := Lib.hid hH
      clear hH hmk hH0
      go_loopw [6] (fun v6 wr => ∃ (k : Nat) (gs : List Value), k ≤ m ∧ v6 = .int .i64 (k : Int) ∧ FB 5 26 mkB w wr B Bt A m c vs N H0 H0 gs ∧ GP 5 mkB wr B vs gs N H0 k 64) (fun v6 _ => m - (intOf v6).toNat)
      case atStart => exact ⟨0, _, by omega, rfl, hfb0, GP.none⟩
      case round =>
        clear hfb0
        obtain ⟨k, gs, hk, rfl, hfb, hgp⟩ := hrel
        obtain ⟨wp, rfl⟩ : ∃ wp : World, wp = wr := ⟨_, rfl⟩
        by_cases hlt : k < m
        · obtain ⟨r, cap, e, -, -, -, -⟩ := own_slice hfb.tab (by omega)
          injection e with e1 e2 e3
          subst e1 e3
          obtain ⟨v, hv⟩ : ∃ v, vs[k]? = some v := ⟨_, List.getElem?_eq_getElem (by rw [Hvl.out]; exact hlt)⟩
          obtain ⟨n, hn⟩ : ∃ n, n = N k := ⟨_, rfl⟩
          obtain ⟨A1, c1, rfl, -, -, -⟩ := own_reads (hfb.own k v hv)
          rw [← hn] at hv
          have hnb : n ≤ 1000000000 := by rw [hn]; exact HN.out k
          have Hv := Lib.hid hv
          have Hn := Lib.hid hn
          have hcv := own_cell hfb.tab hv
          have hov := hfb.own k _ hv
          have hlv := LocV.start hfb hv
          rw [← hn] at hov hlv
          clear hv hn
          go_wp2_with fail
          go_loopw [7, 8] (fun v7 v8 wr => ∃ (i : Nat) (g : Value), i ≤ 64 ∧ v8 = .int .i64 (i : Int) ∧ v7 = g ∧ FB 5 26 mkB w wr B Bt (some ⟨r, 0, none⟩) m c vs N H0 H0 gs ∧ GP 5 mkB wr B vs gs N H0 k 64 ∧ wr.ownsRow B 5 1 g (n + i) (marksV mkB k (n + i)) ∧ LocV vs gs N H0 k g (n + i)) (fun _ v8 _ => 64 - (intOf v8).toNat)
          case atStart => exact ⟨0, _, by omega, rfl, rfl, hfb, hgp, hov, hlv⟩
          case round =>
            clear hfb hgp hov hlv hcv
            obtain ⟨i, g, hi, rfl, rfl, hfb, hgp, hog, hlg⟩ := hrel
            have hcv := own_cell hfb.tab Hv.out
            by_cases hli : i < 64
            · have Hfb := Lib.hid hfb
              have Hgp := Lib.hid hgp
              have Hog := Lib.hid hog
              have Hlg := Lib.hid hlg
              obtain ⟨y, hy⟩ : ∃ y : UInt8, mkB k (n + i) = .int .u8 (y.toNat : Int) := ⟨_, rfl⟩
              have hbz : B ≤ (wr.alloc (.cells #[.int .u8 (y.toNat : Int)] 5)).heap.size := by have := hfb.hz; simp; omega
              have Hy := Lib.hid hy
              clear hy
              clear hfb hgp hog hlg
              go_wp2_with (first | (go_at_call 37; refine (markByte_at k (n + i) _ y _ (by omega) Hy.out (by omega) (by omega)).mono ?_; rintro e w8 ⟨rfl, rfl⟩) | (at_builtin; refine wpList_append_two _ rfl (.tmp 57) (.tmp 67) rfl bytesTy rfl (own_below Hog.out (Grow.alloc _ _)) rfl (ReadsAt.made1 _ _ _) (by simp [Value.oneCell']) (by simp only [maxLen]; omega) (by omega) hbz ?_; intro g' w9 hown9 htw))
              obtain ⟨h1, h2, h3⟩ := step_two hne Hd.out (Hfb.out.grow (Grow.alloc _ _)) (Hgp.out.grow (Grow.alloc _ _)) (own_below Hog.out (Grow.alloc _ _)) (by rw [← Hn.out, marksV_take mkB k (Nat.le_add_right n i)]) (by rw [← Hn.out]; omega) Hlg.out hown9 htw
              rw [← Hy.out, ← marksV_succ] at hown9
              clear htw
              go_wp2
              go_roundw
              case rel => exact ⟨i + 1, _, by omega, by go_num, rfl, h1, h2, hown9, h3⟩
              case measure => simp [intOf]; omega
            · obtain rfl : i = 64 := by omega
              obtain ⟨A5, c5, rfl, -, -, -⟩ := own_reads hog
              obtain ⟨old, hold⟩ : ∃ old, gs.toArray[k]? = some old := ⟨gs[k]'(by rw [hfb.glen]; exact hlt), by simp [hfb.glen, hlt]⟩
              have hcq := hfb.gtab.cell k
              rw [hold] at hcq
              have hfq := hfb.gtab.frozen k
              have hg2 := hgp.put hfb hne Hd.out (g := .slice A5 (n + 64) c5) (L := marksV mkB k (n + 64)) (by rw [← Hn.out]; exact hog) (fun q hq => marksV_get mkB (by rw [← Hn.out] at hq; exact hq)) (by rw [← Hn.out]; exact hlg) hlt
              have hf2 := hfb.setTab hne k (.slice A5 (n + 64) c5)
              have Hg2 := Lib.hid hg2
              have Hf2 := Lib.hid hf2
              clear hfb hgp hog hlg hg2 hf2 hold
              go_wp2
              go_roundw
              case rel => exact ⟨k + 1, _, by omega, by go_num, Hf2.out, Hg2.out⟩
              case measure => simp [intOf]; omega
        · obtain rfl : m = k := by omega
          go_wp2_with fail
          go_loopw [9] (fun v9 wr => ∃ k d : Nat, k ≤ m ∧ v9 = .int .i64 (k : Int) ∧ wp.drewN d = wr) (fun v9 _ => m - (intOf v9).toNat)
          case atStart => exact ⟨0, 0, by omega, rfl, rfl⟩
          case round =>
            obtain ⟨k, d, hk2, rfl, rfl⟩ := hrel
            by_cases hlt : k < m
            · obtain ⟨r, cap, e, -, -, -, -⟩ := own_slice hfb.tab (by omega)
              injection e with e1 e2 e3
              subst e1 e3
              obtain ⟨v, hv⟩ : ∃ v, vs[k]? = some v := ⟨_, List.getElem?_eq_getElem (by rw [Hvl.out]; exact hlt)⟩
              obtain ⟨g, hg⟩ : ∃ g, gs[k]? = some g := ⟨_, List.getElem?_eq_getElem (by rw [hfb.glen]; exact hlt)⟩
              obtain ⟨n, hn⟩ : ∃ n, n = N k := ⟨_, rfl⟩
              obtain ⟨A1, c1, rfl, -, -, -⟩ := own_reads (hfb.own k v hv)
              obtain ⟨L, hL, hLm⟩ := hgp.own k g hlt hg
              obtain ⟨b, c2, rfl, -, -, -, -⟩ := own_slice hL (by omega)
              have hov := hfb.own k _ hv
              rw [← hn] at hv hov hg hL hLm
              have hnb : n ≤ 1000000000 := by rw [hn]; exact HN.out k
              have hcv := own_cell hfb.tab hv
              have hcg := hfb.gtab.cell k
              rw [List.getElem?_toArray, hg] at hcg
              have Hov := Lib.hid hov
              have HL := Lib.hid hL
              have HLm := Lib.hid hLm
              have Hfb := Lib.hid hfb
              have Hgp := Lib.hid hgp
              clear hfb hgp hv hg hn hov hL hLm
              go_wp2_with fail
              go_loopw [10] (fun v10 wr => ∃ i d : Nat, i ≤ n + 64 ∧ v10 = .int .i64 (i : Int) ∧ wp.drewN d = wr) (fun v10 _ => n + 64 - (intOf v10).toNat)
              case atStart => exact ⟨0, d, by omega, rfl, rfl⟩
              case round =>
                obtain ⟨i, d, hi, rfl, rfl⟩ := hrel
                by_cases hli : i < n + 64
                · obtain ⟨y, hy⟩ : ∃ y : UInt8, mkB k i = .int .u8 (y.toNat : Int) := ⟨_, rfl⟩
                  have hcm := fun W => markByte_at k i (i : Int) y W rfl hy (by omega) (by omega)
                  have Hcm := Lib.hid hcm
                  have hcx := own_cell HL.out (HLm.out i hli)
                  rw [hy] at hcx
                  have hyy : ((y.toNat : Int) == (y.toNat : Int)) = true := by simp
                  have Hy := Lib.hid hy
                  clear hcm hy
                  by_cases hin : i < n
                  · obtain ⟨bv, cv, e, -, -, -, -⟩ := own_slice Hov.out (by omega)
                    injection e with e1 e2 e3
                    subst e1 e3
                    have hcy := own_cell Hov.out (marksV_get mkB hin)
                    rw [Hy.out] at hcy
                    have hg1 : decide (i < n) = true := by simpa using hin
                    go_wp2_with fail
                    go_quiet ((go_at_call 37; exact quiet_add_left (Hcm.out _)))
                    go_wp2
                    go_roundw
                    case rel => exact ⟨i + 1, _, by omega, by go_num, rfl⟩
                    case measure => simp [intOf]; omega
                  · have hg1 : decide (i < n) = false := by simpa using hin
                    go_wp2_with fail
                    go_quiet ((go_at_call 37; exact quiet_add_left (Hcm.out _)))
                    go_wp2
                    go_roundw
                    case rel => exact ⟨i + 1, _, by omega, by go_num, rfl⟩
                    case measure => simp [intOf]; omega
                · obtain rfl : i = n + 64 := by omega
                  go_wp2
                  go_roundw
                  case rel => exact ⟨k + 1, _, by omega, by go_num, rfl⟩
                  case measure => simp [intOf]; omega
            · obtain rfl : m = k := by omega
              have hfb4 := hfb.grow (Grow.drewN wp d)
              clear hfb hgp
              go_wp2_with fail
              go_loopw [11] (fun v11 wr => ∃ (k : Nat) (gs : List Value), k ≤ m ∧ v11 = .int .i64 (k : Int) ∧ FB 5 26 mkB w wr B Bt A m c vs N H0 H0 gs ∧ GP 5 mkB wr B vs gs N H0 k 0) (fun v11 _ => m - (intOf v11).toNat)
              case atStart => exact ⟨0, _, by omega, rfl, hfb4, GP.none⟩
              case round =>
                clear hfb4
                obtain ⟨k, gs4, hk4, rfl, hfb, hgp⟩ := hrel
                obtain ⟨wt, rfl⟩ : ∃ wt : World, wt = wr := ⟨_, rfl⟩
                by_cases hlt : k < m
                · obtain ⟨r, cap, e, -, -, -, -⟩ := own_slice hfb.tab (by omega)
                  injection e with e1 e2 e3
                  subst e1 e3
                  obtain ⟨v, hv⟩ : ∃ v, vs[k]? = some v := ⟨_, List.getElem?_eq_getElem (by rw [Hvl.out]; exact hlt)⟩
                  obtain ⟨n, hn⟩ : ∃ n, n = N k := ⟨_, rfl⟩
                  obtain ⟨A1, c1, rfl, -, -, -⟩ := own_reads (hfb.own k v hv)
                  have hov := hfb.own k _ hv
                  have hlv := LocV.start hfb hv
                  rw [← hn] at hv hov hlv
                  have hnb : n ≤ 1000000000 := by rw [hn]; exact HN.out k
                  have Hv := Lib.hid hv
                  have Hn := Lib.hid hn
                  have Hov := Lib.hid hov
                  have Hlv := Lib.hid hlv
                  have Hfb := Lib.hid hfb
                  have Hgp := Lib.hid hgp
                  have hwtz := hfb.hz
                  obtain ⟨Z, hZ⟩ : ∃ Z : Array Value, Z = ((List.replicate 64 (0 : UInt8)).map b8).toArray := ⟨_, rfl⟩
                  have hmk : (Instr.makeSlice 26 (.int .i64 64) (.int .i64 64)).run Tryz.prog wt = .ok (.slice (some ⟨wt.heap.size, 0, none⟩) 64 64) (wt.alloc (.cells Z 5)) := by
                    rw [hZ]
                    exact run_make_cells (P := Tryz.prog) bytesTy rfl .i64 .i64 64 (by omega) (by omega) wt
                  have hbk : Blk (wt.alloc (.cells Z 5)) wt.heap.size 5 ((List.replicate 64 (0 : UInt8)).map b8).toArray := by rw [← hZ]; exact Blk.new _ _ _
                  clear hfb hgp hv hn hov hlv hZ
                  go_wp2_with fail
                  go_loopw [13] (fun v13 wr => ∃ (i : Nat) (L : List UInt8), i ≤ 64 ∧ v13 = .int .i64 (i : Int) ∧ Hid (L.length = 64) ∧ Blk wr wt.heap.size 5 (L.map b8).toArray ∧ Grow wt wr) (fun v13 _ => 64 - (intOf v13).toNat)
                  case atStart => exact ⟨0, _, by omega, rfl, List.length_replicate, hbk, Grow.alloc _ _⟩
                  case round =>
                    clear hbk hmk
                    obtain ⟨i, L, hi, rfl, hLl, hbk, hgr⟩ := hrel
                    by_cases hli : i < 64
                    · have hcm := fun W => markByte_any ((k : Int) + (m : Int)) (i : Int) W (by omega) (by omega) (by omega) (by omega)
                      generalize markB ((k : Int) + (m : Int)) (i : Int) = y at hcm
                      have Hcm := Lib.hid hcm
                      obtain ⟨x, hx⟩ : ∃ x, L[i]? = some x := ⟨_, List.getElem?_eq_getElem (by rw [hLl.out]; exact hli)⟩
                      have hcx := hbk.byte i x hx
                      have hfx := hbk.frozen i
                      have hb2 := hbk.set i (b8 y)
                      have hb3 : Blk (wr.setCell ⟨wt.heap.size, i, none⟩ (b8 y)) wt.heap.size 5 ((L.set i y).map b8).toArray := by
                        rw [List.map_set]
                        simpa using hb2
                      have hg3 : Grow wt (wr.setCell ⟨wt.heap.size, i, none⟩ (b8 y)) := Below.setCell hgr (p := ⟨wt.heap.size, i, none⟩) (Nat.le_refl _) _
                      have hl3 : Hid ((L.set i y).length = 64) := by show _ = _; rw [List.length_set]; exact hLl.out
                      have Hb3 := Lib.hid hb3
                      have Hg3 := Lib.hid hg3
                      clear hcm hx hb2 hb3 hg3 hbk hgr
                      go_wp2_with (go_at_call 37; refine (Hcm.out _).mono ?_; rintro e w8 ⟨rfl, rfl⟩)
                      go_roundw
                      case rel => exact ⟨i + 1, L.set i y, by omega, by go_num, hl3, Hb3.out, Hg3.out⟩
                      case measure => simp [intOf]; omega
                    · obtain rfl : i = 64 := by omega
                      have hmany : BytesAt wr wr.heap.size (some ⟨wt.heap.size, 0, none⟩) 64 L := by
                        have := BytesAt.of_row hbk.cells hbk.lt
                        rwa [hLl.out] at this
                      have hfb := Hfb.out.grow hgr
                      have hgp := Hgp.out.grow hgr
                      have hov := own_below Hov.out hgr
                      have hcv := own_cell hfb.tab Hv.out
                      have hbz : B ≤ wr.heap.size := by have := hgr.size; omega
                      have hfb' := Lib.hid hfb
                      have hgp' := Lib.hid hgp
                      have hov' := Lib.hid hov
                      clear hbk hfb hgp hov hgr
                      obtain ⟨old, hold⟩ : ∃ old, gs4.toArray[k]? = some old := ⟨gs4[k]'(by rw [hfb'.out.glen]; exact hlt), by simp [hfb'.out.glen, hlt]⟩
                      go_wp2_with (at_builtin; refine wpList_append_two _ rfl (.tmp 148) (.tmp 149) rfl bytesTy rfl hov'.out rfl hmany (b8_one L) (by simp only [maxLen]; omega) (by omega) hbz ?_; intro g' w9 hown9 htw; have hst := step_two hne Hd.out hfb'.out hgp'.out hov'.out (by rw [← Hn.out, marksV_take mkB k (Nat.le_refl n)]) (by rw [← Hn.out]; exact Nat.le_refl _) Hlv.out hown9 htw; have hcq := hst.1.gtab.cell k; rw [hold] at hcq; have hfq := hst.1.gtab.frozen k; obtain ⟨A5, c5, rfl, -, -, -⟩ := own_reads hown9; have Hst := Lib.hid hst; have Hown9 := Lib.hid hown9; clear hst hown9 htw)
                      have hg2 := Hst.out.2.1.put Hst.out.1 hne Hd.out (g := .slice A5 (n + 64) c5) (L := marksV mkB k n ++ L.map b8) (by rw [← Hn.out]; exact Hown9.out) (fun q hq => by rw [List.getElem?_append_left (by rw [marksV_length]; rw [← Hn.out] at hq; omega)]; exact marksV_get mkB (by rw [← Hn.out] at hq; omega)) (by rw [← Hn.out]; exact Hst.out.2.2) hlt
                      have hf2 := Hst.out.1.setTab hne k (.slice A5 (n + 64) c5)
                      go_roundw
                      case rel => exact ⟨k + 1, _, by omega, by go_num, hf2, hg2⟩
                      case measure => simp [intOf]; omega
                · obtain rfl : m = k := by omega
                  go_wp2_with fail
                  go_loopw [14] (fun v14 wr => ∃ k d : Nat, k ≤ m ∧ v14 = .int .i64 (k : Int) ∧ wt.drewN d = wr) (fun v14 _ => m - (intOf v14).toNat)
                  case atStart => exact ⟨0, 0, by omega, rfl, rfl⟩
                  case round =>
                    obtain ⟨k, d, hk2, rfl, rfl⟩ := hrel
                    by_cases hlt : k < m
                    · obtain ⟨r, cap, e, -, -, -, -⟩ := own_slice hfb.tab (by omega)
                      injection e with e1 e2 e3
                      subst e1 e3
                      obtain ⟨v, hv⟩ : ∃ v, vs[k]? = some v := ⟨_, List.getElem?_eq_getElem (by rw [Hvl.out]; exact hlt)⟩
                      obtain ⟨g, hg⟩ : ∃ g, gs4[k]? = some g := ⟨_, List.getElem?_eq_getElem (by rw [hfb.glen]; exact hlt)⟩
                      obtain ⟨n, hn⟩ : ∃ n, n = N k := ⟨_, rfl⟩
                      obtain ⟨A1, c1, rfl, -, -, -⟩ := own_reads (hfb.own k v hv)
                      obtain ⟨L, hL, hLm⟩ := hgp.own k g hlt hg
                      obtain ⟨b, c2, rfl, -, -, -, -⟩ := own_slice hL (by omega)
                      have hov := hfb.own k _ hv
                      rw [← hn] at hv hov hg hL hLm
                      have hnb : n ≤ 1000000000 := by rw [hn]; exact HN.out k
                      have hcv := own_cell hfb.tab hv
                      have hcg := hfb.gtab.cell k
                      rw [List.getElem?_toArray, hg] at hcg
                      have Hov := Lib.hid hov
                      have HL := Lib.hid hL
                      have HLm := Lib.hid hLm
                      have Hfb := Lib.hid hfb
                      have Hgp := Lib.hid hgp
                      clear hfb hgp hv hg hn hov hL hLm
                      go_wp2_with fail
                      go_loopw [15] (fun v15 wr => ∃ i d : Nat, i ≤ n ∧ v15 = .int .i64 (i : Int) ∧ wt.drewN d = wr) (fun v15 _ => n - (intOf v15).toNat)
                      case atStart => exact ⟨0, d, by omega, rfl, rfl⟩
                      case round =>
                        obtain ⟨i, d, hi, rfl, rfl⟩ := hrel
                        by_cases hin : i < n
                        · obtain ⟨y, hy⟩ : ∃ y : UInt8, mkB k i = .int .u8 (y.toNat : Int) := ⟨_, rfl⟩
                          have hcm := fun W => markByte_at k i (i : Int) y W rfl hy (by omega) (by omega)
                          have Hcm := Lib.hid hcm
                          have hcx := own_cell HL.out (HLm.out i (by omega))
                          rw [hy] at hcx
                          have hyy : ((y.toNat : Int) == (y.toNat : Int)) = true := by simp
                          have Hy := Lib.hid hy
                          clear hcm hy
                          obtain ⟨bv, cv, e, -, -, -, -⟩ := own_slice Hov.out (by omega)
                          injection e with e1 e2 e3
                          subst e1 e3
                          have hcy := own_cell Hov.out (marksV_get mkB hin)
                          rw [Hy.out] at hcy
                          go_wp2_with fail
                          go_quiet ((go_at_call 37; exact quiet_add_left (Hcm.out _)))
                          go_wp2
                          go_roundw
                          case rel => exact ⟨i + 1, _, by omega, by go_num, rfl⟩
                          case measure => simp [intOf]; omega
                        · obtain rfl : n = i := by omega
                          go_wp2
                          go_roundw
                          case rel => exact ⟨k + 1, _, by omega, by go_num, rfl⟩
                          case measure => simp [intOf]; omega
                    · obtain rfl : m = k := by omega
                      have hkp := hfb.keep.trans' (Keep.grow (Grow.drewN wt d))
                      go_wp2
                      go_ret
                      exact ⟨rfl, hkp, fun j v hv => own_below (hfb.own j v hv) (Grow.drewN wt d)⟩
end Go.Proofs.YtbbjeokecgnfpaaGreat
