/-
  The walk of the law GramSmall. (printed by gen/gramsmall.py)
-/
import Derived.Test.YtfjnjlcmikhehaaGreatGramTells
import Derived.Laws.BytesArg
import Derived.Deep.CutBlock
import Derived.Deep.CutRange
import Derived.Deep.DeepCutAuto
namespace Go.Proofs.YtfjnjlcmikhehaaGreat
open Go.RowKit Go.Shelf GramM
set_option linter.unusedVariables false
/-- four bytes are laid in a new row -/
def smallW (w0 : World) (xs : List UInt8) : List Value → World → Prop
  | [], w => Grow w0 w
  | [v], w => Grow w0 w ∧ ∃ g, v = .slice (some ⟨g, 0, none⟩) 4 4 ∧ w0.heap.size ≤ g ∧ Blk w g 5 (xs.map b8).toArray
  | _, _ => False
theorem smallW.grow {w0 : World} {xs : List UInt8} : ∀ (vals : List Value) (x y : World), Grow x y → smallW w0 xs vals x → smallW w0 xs vals y
  | [], _, _, g, h => Grow.trans h g
  | [_], _, _, g, ⟨h1, m, h2, h3, h4⟩ => ⟨h1.trans g, m, h2, h3, blkOf g h4⟩
  | _ :: _ :: _, _, _, _, h => h
theorem strOf_size (xs : List Int) : (strOfNums xs).size = xs.length := strOfNums_size xs
/-- bytes become a text of their length -/
theorem conv_any (W : World) (base n : Nat) (v : Value) (l : List UInt8) (h : W.ownsRow base 5 1 v n (l.map b8)) : ∃ s : ByteArray, s.size = n ∧ (convert 22 9 v).run Tryz.prog W = .ok (.string s) W := by
  rcases h.2 with ⟨rfl, rfl⟩ | ⟨g, cap, cur, rfl, -, hg, hn, hc, hs, ht⟩
  · exact ⟨.empty, rfl, by simp [convert, Conv.bytesToString, run_underlying Tryz.underlying22, run_underlying Tryz.underlying9, run_underlying Tryz.underlying5]⟩
  · refine ⟨strOfNums (l.map fun x => (x.toNat : Int)), by rw [strOf_size]; have := h.1; simpa using this, run_convert_bytes_arg (P := Tryz.prog) W 22 5 Tryz.underlying22 Tryz.underlying5 g 0 n cap _ (by have := h.1; simpa using this) (fun i hi => ?_) 9 Tryz.underlying9⟩
    have hl : l.length = n := by have := h.1; simpa using this
    rw [Nat.zero_add, h.cellAt i (by omega), List.getElem?_map, List.getElem?_eq_getElem (by omega), List.getD_eq_getElem?_getD, List.getElem?_map, List.getElem?_eq_getElem (by omega)]
    rfl
theorem own_bytes {W : World} {base n c : Nat} {A : Option Addr} {l : List UInt8} (h : W.ownsRow base 5 1 (.slice A n c) n (l.map b8)) : n ≤ c ∧ c ≤ maxLen ∧ BytesAt W W.heap.size A n l := by
  obtain ⟨A', c', e', h1, h2, h3⟩ := own_reads h
  injection e' with e1 _ e2
  subst e1 e2
  exact ⟨h1, h2, h3⟩
set_option maxRecDepth 100000 in
set_option maxHeartbeats 4000000 in
theorem gramSmall_walk (w : World) : Calls Tryz.prog 3 #[] w fun e w' => e = .returned (.bool true) ∧ Grow w w' := by
  have bytesTy : AppTy Tryz.prog 22 5 (.int .u8 0) 1 1 := AppTy.mk' Tryz.underlying22 (by kernel_rfl) rfl (by decide)
  have Htell := Lib.hid (fun (W : World) (B : Nat) (A : Option Addr) (n c : Nat) (b : List UInt8) (hb : BytesAt W B A n b) (hB : B ≤ W.heap.size) (h1 : n ≤ c) (h2 : c ≤ maxLen) (h3 : n ≤ 140737488351232) (i : Int) (h4 : i ≤ 9223372036854775807) (h5 : -9223372036854775808 ≤ i) (s : ByteArray) (h6 : s.size ≤ 281474976710656) => gramTells_walk W B A n c b hb hB h1 h2 h3 i h4 h5 s h6)
  have Haw := Lib.hid (fun W => awake07_any W)
  go_enter Tryz.func3, Tryz.ntmps3
  go_wp2_with fail
  go_loopw [1] (fun v1 wr => ∃ a : Nat, 1 ≤ a ∧ a ≤ 256 ∧ v1 = .int .i64 (a : Int) ∧ Hid (Grow w wr)) (fun v1 _ => 256 - (intOf v1).toNat)
  case atStart => exact ⟨1, by omega, by omega, rfl, Grow.refl _⟩
  case round =>
    obtain ⟨a, ha1, ha, rfl, hg⟩ := hrel
    obtain ⟨wo, rfl⟩ : ∃ wo : World, wo = wr := ⟨_, rfl⟩
    by_cases hlt : a < 256
    · have d1 : decide ((a : Int) < 256) = true := decide_eq_true (by omega)
      have Hgo := Lib.hid hg.out
      go_wp2_with fail
      go_loopw [2, 3] (fun v2 v3 wr => ∃ (k n : Nat) (v : Value) (l : List UInt8), v = v2 ∧ v3 = .int .i64 (k : Int) ∧ n + k ≤ 256 ∧ 1 ≤ k ∧ Hid (wr.ownsRow wo.heap.size 5 1 v n (l.map b8)) ∧ Hid (Grow w wr) ∧ Hid (wo.heap.size ≤ wr.heap.size)) (fun _ v3 _ => (intOf v3).toNat)
      case atStart => exact ⟨a, 0, _, [], rfl, rfl, by omega, by omega, World.ownsRow_nil _ _ _ _, hg, Nat.le_refl _⟩
      case round =>
        clear hg
        obtain ⟨k, n, v, l, rfl, rfl, hnk, hk1, ho, hg, hz⟩ := hrel
        obtain ⟨A1, c1, rfl, -, -, -⟩ := own_reads ho.out
        by_cases hk : 1 < k
        · have d2 : decide (1 < (k : Int)) = true := decide_eq_true (by omega)
          have hpar : k % 2 = 0 ∨ k % 2 = 1 := by omega
          rcases hpar with hpar | hpar
          · have hr : (k : Int) % 2 = 0 := by omega
            obtain ⟨wz, hwz⟩ : ∃ wz, wr.alloc (.cells #[.int .u8 97, .int .u8 98] 5) = wz := ⟨_, rfl⟩
            have hgz : Grow wr wz := by rw [← hwz]; exact Grow.alloc _ _
            have hcz : wz.cell? ⟨wr.heap.size, 0, none⟩ = some (.int .u8 97) := by
              rw [← hwz, (Blk.new wr 5 #[.int .u8 97, .int .u8 98]).cell]
              rfl
            have hown := own_below (own_below ho.out hgz) (Grow.alloc wz (.cells #[.int .u8 97] 5))
            have G3 := Lib.hid (show wo.heap.size ≤ (wz.alloc (.cells #[.int .u8 97] 5)).heap.size from Nat.le_trans hz.out (Nat.le_trans hgz.size (Grow.alloc _ _).size))
            have Hgz := Lib.hid hgz
            clear hgz hpar
            go_wp2_with (first | (rw [hwz]; clear hwz) | (at_builtin; refine wpList_append_reads _ rfl (.tmp 17) (.tmp 23) rfl bytesTy rfl hown rfl (ReadsAt.made1 wz 5 (.int .u8 97)) (by simp [Value.oneCell']) (by simp only [maxLen]; omega) (by omega) G3.out ?_; intro v' w2 hown2 hgr2 hat2))
            have Hg2 := Lib.hid (show Grow w w2 from Below.trans hg.out (Below.trans (Below.mono (Hgz.out.trans (Grow.alloc wz (.cells #[.int .u8 97] 5))) hg.out.size) ((Keep.grown hgr2).below (fun j hj => Nat.le_trans Hgo.out.size (hown.lt j hj).1) (Nat.le_trans Hgo.out.size G3.out))))
            have Ho2 := Lib.hid (show w2.ownsRow wo.heap.size 5 1 v' (n + 1) ((l ++ [97]).map b8) by
              rw [List.map_append]
              exact hown2)
            have Hz2 := Lib.hid (show wo.heap.size ≤ w2.heap.size from Nat.le_trans G3.out hgr2.size)
            clear hgr2 hat2 hown hown2
            go_roundw
            case rel => exact ⟨k / 2, n + 1, _, _, rfl, by go_num, by omega, by omega, Ho2, Hg2, Hz2⟩
            case measure => simp [intOf]; omega
          · have hr : (k : Int) % 2 = 1 := by omega
            obtain ⟨wz, hwz⟩ : ∃ wz, wr.alloc (.cells #[.int .u8 97, .int .u8 98] 5) = wz := ⟨_, rfl⟩
            have hgz : Grow wr wz := by rw [← hwz]; exact Grow.alloc _ _
            have hcz : wz.cell? ⟨wr.heap.size, 1, none⟩ = some (.int .u8 98) := by
              rw [← hwz, (Blk.new wr 5 #[.int .u8 97, .int .u8 98]).cell]
              rfl
            have hown := own_below (own_below ho.out hgz) (Grow.alloc wz (.cells #[.int .u8 98] 5))
            have G3 := Lib.hid (show wo.heap.size ≤ (wz.alloc (.cells #[.int .u8 98] 5)).heap.size from Nat.le_trans hz.out (Nat.le_trans hgz.size (Grow.alloc _ _).size))
            have Hgz := Lib.hid hgz
            clear hgz hpar
            go_wp2_with (first | (rw [hwz]; clear hwz) | (at_builtin; refine wpList_append_reads _ rfl (.tmp 17) (.tmp 23) rfl bytesTy rfl hown rfl (ReadsAt.made1 wz 5 (.int .u8 98)) (by simp [Value.oneCell']) (by simp only [maxLen]; omega) (by omega) G3.out ?_; intro v' w2 hown2 hgr2 hat2))
            have Hg2 := Lib.hid (show Grow w w2 from Below.trans hg.out (Below.trans (Below.mono (Hgz.out.trans (Grow.alloc wz (.cells #[.int .u8 98] 5))) hg.out.size) ((Keep.grown hgr2).below (fun j hj => Nat.le_trans Hgo.out.size (hown.lt j hj).1) (Nat.le_trans Hgo.out.size G3.out))))
            have Ho2 := Lib.hid (show w2.ownsRow wo.heap.size 5 1 v' (n + 1) ((l ++ [98]).map b8) by
              rw [List.map_append]
              exact hown2)
            have Hz2 := Lib.hid (show wo.heap.size ≤ w2.heap.size from Nat.le_trans G3.out hgr2.size)
            clear hgr2 hat2 hown hown2
            go_roundw
            case rel => exact ⟨k / 2, n + 1, _, _, rfl, by go_num, by omega, by omega, Ho2, Hg2, Hz2⟩
            case measure => simp [intOf]; omega
        · have d2 : decide (1 < (k : Int)) = false := decide_eq_false (by omega)
          obtain ⟨b1, b2, b3⟩ := own_bytes ho.out
          obtain ⟨W1, hW1⟩ : ∃ W1 : World, W1 = wr := ⟨_, rfl⟩
          have hown1 := ho.out
          have hg1 := hg.out
          rw [← hW1] at hown1 hg1 ⊢
          clear hk ho hg hz hW1
          have Hown := Lib.hid (show ∀ W, Grow W1 W → W.ownsRow wo.heap.size 5 1 (.slice A1 n c1) n (l.map b8) from fun W h => own_below hown1 h)
          have hn256 : n ≤ 256 := by omega
          clear hown1 b3
          go_wp2_with fail
          go_loopw [4] (fun v4 wr => ∃ i : Int, v4 = .int .i64 i ∧ -2 ≤ i ∧ i ≤ n + 1 ∧ Hid (Grow W1 wr)) (fun v4 _ => (n + 1 - intOf v4).toNat)
          case atStart => exact ⟨-2, rfl, by omega, by omega, Grow.refl _⟩
          case round =>
            obtain ⟨i, rfl, hi1, hi2, hgi⟩ := hrel
            by_cases hlt2 : i < n + 1
            · have d3 : decide (i < (n : Int) + 1) = true := decide_eq_true hlt2
              have hown3 := Hown.out wr hgi.out
              obtain ⟨s, hs, hcv⟩ := conv_any wr _ _ _ _ hown3
              obtain ⟨b1, b2, b3⟩ := own_bytes hown3
              have Hcall := Lib.hid (Htell.out wr wr.heap.size A1 n c1 l b3 (Nat.le_refl _) b1 b2 (by omega) i (by omega) (by omega) s (by omega))
              clear hown3 b3 hs
              go_wp2_with fail
              refine Hcall.out.mono ?_
              rintro e w2 ⟨rfl, hg2⟩
              have Hg2 := Lib.hid (hgi.out.trans hg2)
              clear hg2 Hcall hcv
              go_wp2_with fail
              go_roundw
              case rel => exact ⟨i + 1, by go_num, by omega, by omega, Hg2⟩
              case measure => simp [intOf]; omega
            · have d3 : decide (i < (n : Int) + 1) = false := decide_eq_false hlt2
              have Hg2 := Lib.hid (hg1.trans hgi.out)
              clear hgi
              go_wp2_with fail
              go_roundw
              case rel => exact ⟨a + 1, by omega, by omega, by go_num, Hg2⟩
              case measure => simp [intOf]; omega
    · have d1 : decide ((a : Int) < 256) = false := decide_eq_false (by omega)
      go_wp2_with fail
      obtain ⟨wz, hwz⟩ : ∃ wz, wo.alloc (.cells #[.int .u8 0, .int .u8 127, .int .u8 128, .int .u8 255, .int .u8 10] 5) = wz := ⟨_, rfl⟩
      have Hgz := Lib.hid (show Grow w wz by rw [← hwz]; exact hg.out.trans (Grow.alloc _ _))
      obtain ⟨ob, hob⟩ : ∃ ob, ob = wo.heap.size := ⟨_, rfl⟩
      have Hob := Lib.hid (show ∀ W, Grow wz W → Blk W ob 5 ([(0 : UInt8), 127, 128, 255, 10].map b8).toArray from fun W h => by
        rw [hob]
        exact blkOf h (by rw [← hwz]; exact Blk.new _ _ _))
      rw [hwz, ← hob]
      clear hwz hob hg
      go_loopw [6] (fun v6 wr => ∃ k : Nat, k ≤ 625 ∧ v6 = .int .i64 (k : Int) ∧ Hid (Grow wz wr)) (fun v6 _ => 625 - (intOf v6).toNat)
      case atStart => exact ⟨0, by omega, rfl, Grow.refl _⟩
      case round =>
        obtain ⟨k, hk, rfl, hg⟩ := hrel
        by_cases hlk : k < 625
        · have d2 : decide ((k : Int) < 625) = true := decide_eq_true (by omega)
          have hodd : ∀ q : Nat, q < 5 → ∃ x : UInt8, ([(0 : UInt8), 127, 128, 255, 10].map b8).toArray[q]? = some (b8 x) := fun q hq => by
            refine ⟨[(0 : UInt8), 127, 128, 255, 10].getD q 0, ?_⟩
            rcases q with _ | _ | _ | _ | _ | q
            · rfl
            · rfl
            · rfl
            · rfl
            · rfl
            · omega
          obtain ⟨i1, e1⟩ : ∃ i1 : Nat, i1 = k % 5 := ⟨_, rfl⟩
          obtain ⟨j2, f2⟩ : ∃ j2 : Nat, j2 = k / 5 := ⟨_, rfl⟩
          obtain ⟨i2, e2⟩ : ∃ i2 : Nat, i2 = j2 % 5 := ⟨_, rfl⟩
          obtain ⟨j3, f3⟩ : ∃ j3 : Nat, j3 = k / 25 := ⟨_, rfl⟩
          obtain ⟨i3, e3⟩ : ∃ i3 : Nat, i3 = j3 % 5 := ⟨_, rfl⟩
          obtain ⟨i4, e4⟩ : ∃ i4 : Nat, i4 = k / 125 := ⟨_, rfl⟩
          have hi1 : i1 < 5 := by omega
          have hi2 : i2 < 5 := by omega
          have hi3 : i3 < 5 := by omega
          have hi4 : i4 < 5 := by omega
          have E1 := Lib.hid (show (k : Int) % 5 = (i1 : Int) by omega)
          have G2 := Lib.hid (show IntKind.i64.wrap ((k : Int) / 5) = (j2 : Int) by rw [IntKind.wrap_i64] <;> omega)
          have E2 := Lib.hid (show (j2 : Int) % 5 = (i2 : Int) by omega)
          have G3 := Lib.hid (show IntKind.i64.wrap ((k : Int) / 25) = (j3 : Int) by rw [IntKind.wrap_i64] <;> omega)
          have E3 := Lib.hid (show (j3 : Int) % 5 = (i3 : Int) by omega)
          have E4 := Lib.hid (show IntKind.i64.wrap ((k : Int) / 125) = (i4 : Int) by rw [IntKind.wrap_i64] <;> omega)
          obtain ⟨x1, hx1⟩ := hodd i1 hi1
          obtain ⟨x2, hx2⟩ := hodd i2 hi2
          obtain ⟨x3, hx3⟩ := hodd i3 hi3
          obtain ⟨x4, hx4⟩ := hodd i4 hi4
          have hcell : ∀ W, Grow wr W → ∀ q x, ([(0 : UInt8), 127, 128, 255, 10].map b8).toArray[q]? = some (b8 x) → W.cell? ⟨ob, q, none⟩ = some (.int .u8 (x.toNat : Int)) := fun W h q x hq => by
            rw [(Hob.out W (hg.out.trans h)).cell q, hq]
            rfl
          have HC := Lib.hid (show ∀ W, Grow wr W → W.cell? ⟨ob, i1, none⟩ = some (.int .u8 (x1.toNat : Int)) ∧ W.cell? ⟨ob, i2, none⟩ = some (.int .u8 (x2.toNat : Int)) ∧ W.cell? ⟨ob, i3, none⟩ = some (.int .u8 (x3.toNat : Int)) ∧ W.cell? ⟨ob, i4, none⟩ = some (.int .u8 (x4.toNat : Int)) from fun W h => ⟨hcell W h _ _ hx1, hcell W h _ _ hx2, hcell W h _ _ hx3, hcell W h _ _ hx4⟩)
          clear hodd hcell hx1 hx2 hx3 hx4 e1 f2 e2 f3 e3 e4
          go_upto_region 18 with (fail)
          go_cut [7] from 43 to 65 (fun v7 wx => ∃ (g : Nat) (W : World), W = wx ∧ v7 = .slice (some ⟨g, 0, none⟩) 4 4 ∧ Grow wr W ∧ Blk W g 5 ([x1, x2, x3, x4].map b8).toArray)
          case first Jx Kx hJx hMx =>
            refine wp_region_stages (by kernel_rfl) ?_
            refine anyOrder_pop rfl (by kernel_rfl) ?_
            refine anyOrder_start [22] (Keep (fun _ => False)) (smallW wr [x1, x2, x3, x4]) (FactsOn [.is (.slice (some ⟨ob, 0, none⟩) 5 5), .is (.int .i64 (k : Int)), .is (.int .i64 (i1 : Int)), .is (.pointer (some ⟨ob, i1, none⟩)), .is (.int .u8 (x1.toNat : Int)), .is (.slice (some ⟨ob, 0, none⟩) 5 5), .is (.int .i64 (k : Int)), .is (.int .i64 (j2 : Int)), .is (.int .i64 (i2 : Int)), .is (.pointer (some ⟨ob, i2, none⟩)), .is (.int .u8 (x2.toNat : Int)), .is (.slice (some ⟨ob, 0, none⟩) 5 5), .is (.int .i64 (k : Int)), .is (.int .i64 (j3 : Int)), .is (.int .i64 (i3 : Int)), .is (.pointer (some ⟨ob, i3, none⟩)), .is (.int .u8 (x3.toNat : Int)), .is (.slice (some ⟨ob, 0, none⟩) 5 5), .is (.int .i64 (k : Int)), .is (.int .i64 (i4 : Int)), .is (.pointer (some ⟨ob, i4, none⟩)), .is (.int .u8 (x4.toNat : Int)), .any]) (fun i => if i = 4 then 0 else if i = 10 then 0 else if i = 16 then 0 else if i = 21 then 0 else 99) keep_trans keep_grow (smallW.grow) (factsOn_mono _) (by kernel_rfl) (by kernel_rfl) (Grow.refl _) ?_ ?_
            · refine ⟨?_, ?_, ?_, ?_, ?_, ?_, ?_, ?_, ?_, ?_, ?_, ?_, ?_, ?_, ?_, ?_, ?_, ?_, ?_, ?_, ?_, ?_, ?_, trivial⟩
              · refine stageOf_free rfl (fun _ _ _ _ _ _ => wanted_none rfl) ?_
                intro us vals w3 a' ha hle hW hd hv K hK
                have q5 : a'.tmps[5]? = some (.slice (some ⟨ob, 0, none⟩) 5 5) := slot_old ha (by kernel_rfl) (by kernel_rfl)
                exact step_value (w2 := w3) (by go_simp) (hK _ _ (Grow.refl _) rfl)
              · refine stageOf_free rfl (fun _ _ _ _ _ _ => wanted_none rfl) ?_
                intro us vals w3 a' ha hle hW hd hv K hK
                have q6 : a'.tmps[6]? = some (.int .i64 (k : Int)) := slot_old ha (by kernel_rfl) (by kernel_rfl)
                exact step_value (w2 := w3) (by go_simp) (hK _ _ (Grow.refl _) rfl)
              · refine stageOf_free rfl (fun _ _ _ _ _ _ => wanted_none rfl) ?_
                intro us vals w3 a' ha hle hW hd hv K hK
                obtain ⟨d1, _⟩ := hd
                have q44 : a'.tmps[44]? = some (us 1) := slot_get ha 1 (by kernel_rfl) (by kernel_rfl)
                rw [show us 1 = .int .i64 (k : Int) from d1] at q44
                refine step_value (v := .int .i64 (i1 : Int)) (w2 := w3) ?_ (hK _ _ (Grow.refl _) rfl)
                go_simp
                exact E1.out
              · refine stageOf_free rfl (fun _ _ _ _ _ _ => wanted_none rfl) ?_
                intro us vals w3 a' ha hle hW hd hv K hK
                obtain ⟨d0, d2, _⟩ := hd
                have q43 : a'.tmps[43]? = some (us 0) := slot_get ha 0 (by kernel_rfl) (by kernel_rfl)
                rw [show us 0 = .slice (some ⟨ob, 0, none⟩) 5 5 from d0] at q43
                have q45 : a'.tmps[45]? = some (us 2) := slot_get ha 2 (by kernel_rfl) (by kernel_rfl)
                rw [show us 2 = .int .i64 (i1 : Int) from d2] at q45
                refine step_value (v := .pointer (some ⟨ob, i1, none⟩)) (w2 := w3) ?_ (hK _ _ (Grow.refl _) rfl)
                go_simp
                (try (intro h; omega))
              · refine stageOf_free rfl (fun _ _ _ _ _ _ => wanted_none rfl) ?_
                intro us vals w3 a' ha hle hW hd hv K hK
                obtain ⟨d3, _⟩ := hd
                obtain rfl := List.eq_nil_of_length_eq_zero (Nat.le_zero.1 (show vals.length ≤ 0 from hv))
                have q46 : a'.tmps[46]? = some (us 3) := slot_get ha 3 (by kernel_rfl) (by kernel_rfl)
                rw [show us 3 = .pointer (some ⟨ob, i1, none⟩) from d3] at q46
                have hc := (HC.out w3 hW).1
                refine step_value (v := .int .u8 (x1.toNat : Int)) (w2 := w3) ?_ (hK _ _ (Grow.refl _) rfl)
                go_simp
              · refine stageOf_free rfl (fun _ _ _ _ _ _ => wanted_none rfl) ?_
                intro us vals w3 a' ha hle hW hd hv K hK
                have q5 : a'.tmps[5]? = some (.slice (some ⟨ob, 0, none⟩) 5 5) := slot_old ha (by kernel_rfl) (by kernel_rfl)
                exact step_value (w2 := w3) (by go_simp) (hK _ _ (Grow.refl _) rfl)
              · refine stageOf_free rfl (fun _ _ _ _ _ _ => wanted_none rfl) ?_
                intro us vals w3 a' ha hle hW hd hv K hK
                have q6 : a'.tmps[6]? = some (.int .i64 (k : Int)) := slot_old ha (by kernel_rfl) (by kernel_rfl)
                exact step_value (w2 := w3) (by go_simp) (hK _ _ (Grow.refl _) rfl)
              · refine stageOf_free rfl (fun _ _ _ _ _ _ => wanted_none rfl) ?_
                intro us vals w3 a' ha hle hW hd hv K hK
                obtain ⟨d6, _⟩ := hd
                have q49 : a'.tmps[49]? = some (us 6) := slot_get ha 6 (by kernel_rfl) (by kernel_rfl)
                rw [show us 6 = .int .i64 (k : Int) from d6] at q49
                refine step_value (v := .int .i64 (j2 : Int)) (w2 := w3) ?_ (hK _ _ (Grow.refl _) rfl)
                go_simp
                exact G2.out
              · refine stageOf_free rfl (fun _ _ _ _ _ _ => wanted_none rfl) ?_
                intro us vals w3 a' ha hle hW hd hv K hK
                obtain ⟨d7, _⟩ := hd
                have q50 : a'.tmps[50]? = some (us 7) := slot_get ha 7 (by kernel_rfl) (by kernel_rfl)
                rw [show us 7 = .int .i64 (j2 : Int) from d7] at q50
                refine step_value (v := .int .i64 (i2 : Int)) (w2 := w3) ?_ (hK _ _ (Grow.refl _) rfl)
                go_simp
                exact E2.out
              · refine stageOf_free rfl (fun _ _ _ _ _ _ => wanted_none rfl) ?_
                intro us vals w3 a' ha hle hW hd hv K hK
                obtain ⟨d5, d8, _⟩ := hd
                have q48 : a'.tmps[48]? = some (us 5) := slot_get ha 5 (by kernel_rfl) (by kernel_rfl)
                rw [show us 5 = .slice (some ⟨ob, 0, none⟩) 5 5 from d5] at q48
                have q51 : a'.tmps[51]? = some (us 8) := slot_get ha 8 (by kernel_rfl) (by kernel_rfl)
                rw [show us 8 = .int .i64 (i2 : Int) from d8] at q51
                refine step_value (v := .pointer (some ⟨ob, i2, none⟩)) (w2 := w3) ?_ (hK _ _ (Grow.refl _) rfl)
                go_simp
                (try (intro h; omega))
              · refine stageOf_free rfl (fun _ _ _ _ _ _ => wanted_none rfl) ?_
                intro us vals w3 a' ha hle hW hd hv K hK
                obtain ⟨d9, _⟩ := hd
                obtain rfl := List.eq_nil_of_length_eq_zero (Nat.le_zero.1 (show vals.length ≤ 0 from hv))
                have q52 : a'.tmps[52]? = some (us 9) := slot_get ha 9 (by kernel_rfl) (by kernel_rfl)
                rw [show us 9 = .pointer (some ⟨ob, i2, none⟩) from d9] at q52
                have hc := (HC.out w3 hW).2.1
                refine step_value (v := .int .u8 (x2.toNat : Int)) (w2 := w3) ?_ (hK _ _ (Grow.refl _) rfl)
                go_simp
              · refine stageOf_free rfl (fun _ _ _ _ _ _ => wanted_none rfl) ?_
                intro us vals w3 a' ha hle hW hd hv K hK
                have q5 : a'.tmps[5]? = some (.slice (some ⟨ob, 0, none⟩) 5 5) := slot_old ha (by kernel_rfl) (by kernel_rfl)
                exact step_value (w2 := w3) (by go_simp) (hK _ _ (Grow.refl _) rfl)
              · refine stageOf_free rfl (fun _ _ _ _ _ _ => wanted_none rfl) ?_
                intro us vals w3 a' ha hle hW hd hv K hK
                have q6 : a'.tmps[6]? = some (.int .i64 (k : Int)) := slot_old ha (by kernel_rfl) (by kernel_rfl)
                exact step_value (w2 := w3) (by go_simp) (hK _ _ (Grow.refl _) rfl)
              · refine stageOf_free rfl (fun _ _ _ _ _ _ => wanted_none rfl) ?_
                intro us vals w3 a' ha hle hW hd hv K hK
                obtain ⟨d12, _⟩ := hd
                have q55 : a'.tmps[55]? = some (us 12) := slot_get ha 12 (by kernel_rfl) (by kernel_rfl)
                rw [show us 12 = .int .i64 (k : Int) from d12] at q55
                refine step_value (v := .int .i64 (j3 : Int)) (w2 := w3) ?_ (hK _ _ (Grow.refl _) rfl)
                go_simp
                exact G3.out
              · refine stageOf_free rfl (fun _ _ _ _ _ _ => wanted_none rfl) ?_
                intro us vals w3 a' ha hle hW hd hv K hK
                obtain ⟨d13, _⟩ := hd
                have q56 : a'.tmps[56]? = some (us 13) := slot_get ha 13 (by kernel_rfl) (by kernel_rfl)
                rw [show us 13 = .int .i64 (j3 : Int) from d13] at q56
                refine step_value (v := .int .i64 (i3 : Int)) (w2 := w3) ?_ (hK _ _ (Grow.refl _) rfl)
                go_simp
                exact E3.out
              · refine stageOf_free rfl (fun _ _ _ _ _ _ => wanted_none rfl) ?_
                intro us vals w3 a' ha hle hW hd hv K hK
                obtain ⟨d11, d14, _⟩ := hd
                have q54 : a'.tmps[54]? = some (us 11) := slot_get ha 11 (by kernel_rfl) (by kernel_rfl)
                rw [show us 11 = .slice (some ⟨ob, 0, none⟩) 5 5 from d11] at q54
                have q57 : a'.tmps[57]? = some (us 14) := slot_get ha 14 (by kernel_rfl) (by kernel_rfl)
                rw [show us 14 = .int .i64 (i3 : Int) from d14] at q57
                refine step_value (v := .pointer (some ⟨ob, i3, none⟩)) (w2 := w3) ?_ (hK _ _ (Grow.refl _) rfl)
                go_simp
                (try (intro h; omega))
              · refine stageOf_free rfl (fun _ _ _ _ _ _ => wanted_none rfl) ?_
                intro us vals w3 a' ha hle hW hd hv K hK
                obtain ⟨d15, _⟩ := hd
                obtain rfl := List.eq_nil_of_length_eq_zero (Nat.le_zero.1 (show vals.length ≤ 0 from hv))
                have q58 : a'.tmps[58]? = some (us 15) := slot_get ha 15 (by kernel_rfl) (by kernel_rfl)
                rw [show us 15 = .pointer (some ⟨ob, i3, none⟩) from d15] at q58
                have hc := (HC.out w3 hW).2.2.1
                refine step_value (v := .int .u8 (x3.toNat : Int)) (w2 := w3) ?_ (hK _ _ (Grow.refl _) rfl)
                go_simp
              · refine stageOf_free rfl (fun _ _ _ _ _ _ => wanted_none rfl) ?_
                intro us vals w3 a' ha hle hW hd hv K hK
                have q5 : a'.tmps[5]? = some (.slice (some ⟨ob, 0, none⟩) 5 5) := slot_old ha (by kernel_rfl) (by kernel_rfl)
                exact step_value (w2 := w3) (by go_simp) (hK _ _ (Grow.refl _) rfl)
              · refine stageOf_free rfl (fun _ _ _ _ _ _ => wanted_none rfl) ?_
                intro us vals w3 a' ha hle hW hd hv K hK
                have q6 : a'.tmps[6]? = some (.int .i64 (k : Int)) := slot_old ha (by kernel_rfl) (by kernel_rfl)
                exact step_value (w2 := w3) (by go_simp) (hK _ _ (Grow.refl _) rfl)
              · refine stageOf_free rfl (fun _ _ _ _ _ _ => wanted_none rfl) ?_
                intro us vals w3 a' ha hle hW hd hv K hK
                obtain ⟨d18, _⟩ := hd
                have q61 : a'.tmps[61]? = some (us 18) := slot_get ha 18 (by kernel_rfl) (by kernel_rfl)
                rw [show us 18 = .int .i64 (k : Int) from d18] at q61
                refine step_value (v := .int .i64 (i4 : Int)) (w2 := w3) ?_ (hK _ _ (Grow.refl _) rfl)
                go_simp
                exact E4.out
              · refine stageOf_free rfl (fun _ _ _ _ _ _ => wanted_none rfl) ?_
                intro us vals w3 a' ha hle hW hd hv K hK
                obtain ⟨d17, d19, _⟩ := hd
                have q60 : a'.tmps[60]? = some (us 17) := slot_get ha 17 (by kernel_rfl) (by kernel_rfl)
                rw [show us 17 = .slice (some ⟨ob, 0, none⟩) 5 5 from d17] at q60
                have q62 : a'.tmps[62]? = some (us 19) := slot_get ha 19 (by kernel_rfl) (by kernel_rfl)
                rw [show us 19 = .int .i64 (i4 : Int) from d19] at q62
                refine step_value (v := .pointer (some ⟨ob, i4, none⟩)) (w2 := w3) ?_ (hK _ _ (Grow.refl _) rfl)
                go_simp
                (try (intro h; omega))
              · refine stageOf_free rfl (fun _ _ _ _ _ _ => wanted_none rfl) ?_
                intro us vals w3 a' ha hle hW hd hv K hK
                obtain ⟨d20, _⟩ := hd
                obtain rfl := List.eq_nil_of_length_eq_zero (Nat.le_zero.1 (show vals.length ≤ 0 from hv))
                have q63 : a'.tmps[63]? = some (us 20) := slot_get ha 20 (by kernel_rfl) (by kernel_rfl)
                rw [show us 20 = .pointer (some ⟨ob, i4, none⟩) from d20] at q63
                have hc := (HC.out w3 hW).2.2.2
                refine step_value (v := .int .u8 (x4.toNat : Int)) (w2 := w3) ?_ (hK _ _ (Grow.refl _) rfl)
                go_simp
              · refine stageOf_mem (t := 0) rfl ?_
                intro us vals w3 a' ha hle hW hd hv
                obtain ⟨d4, d10, d16, d21, _⟩ := hd
                obtain rfl := List.eq_nil_of_length_eq_zero (Nat.le_zero.1 (show vals.length ≤ 0 from Nat.le_of_eq hv))
                refine ⟨wanted_none rfl, fun K hK => ?_⟩
                have q47 : a'.tmps[47]? = some (us 4) := slot_get ha 4 (by kernel_rfl) (by kernel_rfl)
                rw [show us 4 = .int .u8 (x1.toNat : Int) from d4] at q47
                have q53 : a'.tmps[53]? = some (us 10) := slot_get ha 10 (by kernel_rfl) (by kernel_rfl)
                rw [show us 10 = .int .u8 (x2.toNat : Int) from d10] at q53
                have q59 : a'.tmps[59]? = some (us 16) := slot_get ha 16 (by kernel_rfl) (by kernel_rfl)
                rw [show us 16 = .int .u8 (x3.toNat : Int) from d16] at q59
                have q64 : a'.tmps[64]? = some (us 21) := slot_get ha 21 (by kernel_rfl) (by kernel_rfl)
                rw [show us 21 = .int .u8 (x4.toNat : Int) from d21] at q64
                refine step_value (v := .slice (some ⟨w3.heap.size, 0, none⟩) 4 4) (w2 := w3.alloc (.cells #[.int .u8 (x1.toNat : Int), .int .u8 (x2.toNat : Int), .int .u8 (x3.toNat : Int), .int .u8 (x4.toNat : Int)] 5)) (by go_simp) (hK _ _ (Keep.grow (Grow.alloc _ _)) ⟨hW.trans (Grow.alloc _ _), _, rfl, hW.size, Blk.new _ _ _⟩)
            · intro us vals w5 hle hvl hW ht hf
              obtain ⟨v, rfl⟩ := List.length_eq_one_iff.1 hvl
              obtain ⟨h1, g, rfl, h2, h3⟩ := hW
              have e5 : us 22 = .slice (some ⟨g, 0, none⟩) 4 4 := by
                have h0 : some (Value.slice (some ⟨g, 0, none⟩) 4 4) = some (us 22) := ht 0 (by simp)
                injection h0 with h0
                exact h0.symm
              refine lastQ.assign (v := us 22) (s := 65) rfl (by kernel_rfl) ?_
              rw [e5]
              exact hMx _ _ (Met.intro (hJx _ _ ⟨.slice (some ⟨g, 0, none⟩) 4 4, us 0, us 1, us 2, us 3, us 4, us 5, us 6, us 7, us 8, us 9, us 10, us 11, us 12, us 13, us 14, us 15, us 16, us 17, us 18, us 19, us 20, us 21, us 22, ⟨g, _, rfl, rfl, h1, h3⟩, by rw [← e5]; kernel_rfl⟩))
          case rest =>
            obtain ⟨g, W, rfl, rfl, hg1, hb1⟩ := hcut
            have Hg1 := Lib.hid (hg.out.trans hg1)
            have hby : BytesAt W W.heap.size (some ⟨g, 0, none⟩) 4 [x1, x2, x3, x4] := BytesAt.of_row hb1.cells hb1.lt
            obtain ⟨q4, e4⟩ : ∃ q4 : Nat, q4 = k % 4 := ⟨_, rfl⟩
            have hq4 : (k : Int) % 4 = (q4 : Int) := by omega
            have hq4b : q4 < 4 := by omega
            have hcv := conv3 W g 1 3 x2 x3 x4 (hb1.cell 1) (hb1.cell 2) (hb1.cell 3)
            have Hcall := Lib.hid (Htell.out W W.heap.size (some ⟨g, 0, none⟩) 4 4 [x1, x2, x3, x4] hby (Nat.le_refl _) (by omega) (by unfold maxLen; omega) (by omega) (q4 : Int) (by omega) (by omega) ⟨#[x2, x3, x4]⟩ (by show 3 ≤ _; omega))
            clear hby hb1 e4 hg1 hg HC E1 E2 E3 E4 G2 G3
            go_wp2_with fail
            refine Hcall.out.mono ?_
            rintro e w2 ⟨rfl, hg2⟩
            have Hg2 := Lib.hid (Hg1.out.trans hg2)
            clear hg2 Hcall hcv
            go_wp2_with fail
            go_roundw
            case rel => exact ⟨k + 1, by omega, by go_num, Hg2⟩
            case measure => simp [intOf]; omega
        · have d2 : decide ((k : Int) < 625) = false := decide_eq_false (by omega)
          have Hg1 := Lib.hid (Hgz.out.trans hg.out)
          obtain ⟨w1, hw1⟩ : ∃ w1 : World, w1 = wr := ⟨_, rfl⟩
          rw [← hw1] at Hg1 ⊢
          clear hg hw1 Hob
          have kc := fun (w : World) (C : Array Value) (n c : Nat) => Lib.run_convert_bytes_const (P := Tryz.prog) w 22 5 C n c Tryz.underlying22 Tryz.underlying5
          have hBy : ∀ W : World, BytesAt (W.alloc (.cells #[.int .u8 97, .int .u8 98, .int .u8 99] 5 (3, 4))) (W.heap.size + 1) (some ⟨W.heap.size, 0, none⟩) 3 [97, 98, 99] := fun W => BytesAt.of_row (Cells.new W 5 ([97, 98, 99].map b8).toArray (3, 4)) (by simp)
          obtain ⟨Z, hZ⟩ : ∃ Z : Array Value, Z = madeCells (Value.cells (.int .u8 0)) (1000 * 1) := ⟨_, rfl⟩
          have hmk : (Instr.makeSlice 22 (.int .i64 1000) (.int .i64 1000)).run Tryz.prog w1 = .ok (.slice (some ⟨w1.heap.size, 0, none⟩) 1000 1000) (w1.alloc (.cells Z 5)) := by
            rw [hZ]
            exact run_make_S (P := Tryz.prog) bytesTy .i64 .i64 1000 (by omega) (by omega) w1
          have hZ2 : Z = ((List.replicate 1000 (0 : UInt8)).map b8).toArray := by
            rw [hZ, List.map_replicate]
            refine Array.toList_inj.1 ?_
            rw [show Value.cells (.int .u8 0) = #[.int .u8 0] from rfl, toList_madeCells_one]
            rfl
          have hby : BytesAt (w1.alloc (.cells Z 5)) (w1.heap.size + 1) (some ⟨w1.heap.size, 0, none⟩) 1000 (List.replicate 1000 (0 : UInt8)) := by
            have h := BytesAt.of_row (B := w1.heap.size + 1) (l := List.replicate 1000 (0 : UInt8)) (Blk.cells (by rw [← hZ2]; exact Blk.new w1 5 Z)) (by omega)
            rw [List.length_replicate] at h
            exact h
          have Hcall := Lib.hid (Htell.out (w1.alloc (.cells Z 5)) (w1.heap.size + 1) (some ⟨w1.heap.size, 0, none⟩) 1000 1000 _ hby (by simp) (Nat.le_refl _) (by unfold maxLen; omega) (by omega) 997 (by omega) (by omega) ⟨#[]⟩ (by show 0 ≤ _; omega))
          have hgz : Grow w1 (w1.alloc (.cells Z 5)) := Grow.alloc _ _
          have Hgz1 := Lib.hid (Hg1.out.trans hgz)
          clear hZ hZ2 hby hgz Hgz
          go_wp2_with fail
          refine Hcall.out.mono ?_
          rintro e w2 ⟨rfl, hg2⟩
          have Hg2 := Lib.hid (Hgz1.out.trans hg2)
          clear hg2 Hcall hmk Hgz1
          go_wp2_with fail
          refine (Htell.out w2 w2.heap.size none 0 0 [] ⟨rfl, fun h => absurd h (by omega)⟩ (Nat.le_refl _) (Nat.le_refl _) (by unfold maxLen; omega) (by omega) (-9223372036854775808) (by omega) (by omega) ⟨#[97, 98]⟩ (by show 2 ≤ _; omega)).mono ?_
          rintro e w3 ⟨rfl, hg3⟩
          have Hg3 := Lib.hid (Hg2.out.trans hg3)
          clear hg3
          go_wp2_with fail
          refine (Htell.out _ (w3.heap.size + 1) (some ⟨w3.heap.size, 0, none⟩) 3 3 [97, 98, 99] (hBy w3) (by simp) (Nat.le_refl _) (by unfold maxLen; omega) (by omega) 9223372036854775807 (by omega) (by omega) ⟨#[97, 98, 99]⟩ (by show 3 ≤ _; omega)).mono ?_
          rintro e w4 ⟨rfl, hg4⟩
          have Hg4 := Lib.hid (Hg3.out.trans ((Grow.alloc w3 (.cells #[.int .u8 97, .int .u8 98, .int .u8 99] 5 (3, 4))).trans hg4))
          clear hg4 hBy kc
          go_wp2_with fail
          refine (Haw.out w4).mono ?_
          rintro e w5 ⟨rfl, hg5⟩
          have Hg5 := Lib.hid (Hg4.out.trans hg5)
          clear hg5
          go_wp2_with fail
          go_ret
          exact ⟨rfl, Hg5.out⟩
end Go.Proofs.YtfjnjlcmikhehaaGreat
