/-
  The walk of the document's Put (layer 3).
-/
import Derived.Deep.MidRow
import Derived.Deep.DeepCutAuto
import Derived.Deep.CutRange
import Derived.Test.YtcimkoehcdfjdaaGreatDoorVAll
import Derived.Test.YtcimkoehcdfjdaaGreatDoorFrameMath
import Derived.Test.YtcimkoehcdfjdaaGreatDoorFramePut
import Derived.Test.YtcimkoehcdfjdaaGreatDoorRef01
namespace Go.Proofs.YtcimkoehcdfjdaaGreatDoor
open Go.RowKit WireM

set_option maxRecDepth 100000 in
set_option maxHeartbeats 4000000 in
theorem rPut_any (w : World) (A : Option Addr) (n c : Nat) (ts : List PartM) (hPt : PartsAt w w.heap.size A n ts) (hn : n ≤ 4398046510976) (hf : (fileB ts).length ≤ 67108864) :
  Calls Tryz.prog 17 #[.slice A n c] w fun e w' => ∃ r, e = .returned (.tuple #[r, .int .i64 0]) ∧ w'.ownsRow w.heap.size 5 1 r (fileB ts).length ((fileB ts).map b8) ∧ Grow w w' := by
 have bytesTy : AppTy Tryz.prog 28 5 (.int .u8 0) 1 1 := AppTy.mk' Tryz.underlying28 (by kernel_rfl) rfl (by decide)
 have hT : 55 ≠ 5 := by decide
 have Hlen := Lib.hid hPt.len
 have hbl : (bodyB ts).length ≤ 67108856 := by rw [fileB_len] at hf; omega
 go_enter Tryz.func17, Tryz.ntmps17
 go_wp2
 have hI0 : Wr 55 (w.alloc (.cells #[.slice none 0 0, .bool false] 55)) w.heap.size w.heap.size (.slice none 0 0) [] false := ⟨Blk.new _ _ _, World.ownsRow_nil _ _ _ _, Nat.le_refl _⟩
 go_loopw [5] (fun v5 wr => ∃ (k : Nat) (v1 : Value), k ≤ n ∧ v5 = .int .i64 (k : Int) ∧ Hid (Wr 55 wr w.heap.size w.heap.size v1 (bodyB (ts.take k)) false) ∧ Hid (Grow w wr)) (fun v5 _ => n - (intOf v5).toNat)
 case atStart => exact ⟨0, _, by omega, rfl, hI0, Grow.alloc _ _⟩
 case round =>
  clear hI0
  obtain ⟨k, v1, hk, rfl, hW, hg⟩ := hrel
  by_cases hlt : k < n
  ·obtain ⟨t, ht⟩ : ∃ t, ts[k]? = some t := ⟨_, List.getElem?_eq_getElem (by rw [Hlen.out]; exact hlt)⟩
   have hgz := hg.out.size
   obtain ⟨b, off, A1, n1, c1, rfl, hb, hc0, hc1, hnc1, hcm1, hn47, hr1⟩ := (hPt.below hg.out).at_ ht
   have Hc1 := Lib.hid hc1
   have Hr1 := Lib.hid hr1
   have Hn1 := Lib.hid hr1.len
   have Hbs := Lib.hid (show bodyB (ts.take (k + 1)) = bodyB (ts.take k) ++ t.tag :: (enc t.b.length ++ t.b) from bodyB_succ ht)
   have h1 := body_take_le ts (k + 1)
   rw [bodyB_succ ht, List.length_append] at h1
   simp only [partB, List.length_cons, List.length_append] at h1
   have hlen1 : t.b.length = n1 := Hn1.out
   rw [hlen1] at h1
   obtain ⟨L, hL⟩ : ∃ L, L = bodyB (ts.take k) := ⟨_, rfl⟩
   rw [← hL] at h1 hW Hbs
   have hLl : L.length + n1 + 2 ≤ 67108860 := by have := enc_pos n1; omega
   have hzb : b < wr.heap.size := by omega
   have hW1 := hW.out
   have hbf : ¬ FootS w.heap.size v1 b := fun h => by have := hW1.ge b h; omega
   obtain ⟨y, hy⟩ : ∃ y, y = t.tag := ⟨_, rfl⟩
   rw [← hy] at hc0 Hbs
   clear ht hc1 hr1 hlen1 hL hy h1
   go_upto_region 5 with (fail)
   go_cut [27] from 16 to 29 (fun v27 wx => ∃ (v3 : Value) (W3 : World), W3 = wx ∧ Wr 55 W3 w.heap.size w.heap.size v3 (L ++ [y]) false ∧ Foot wr w.heap.size v1 W3 v3)
   case first Jx Kx hJx hMx =>
    refine wp_region_stages (by kernel_rfl) ?_
    refine anyOrder_start [11, 14] (Keep (FootS w.heap.size v1)) (appW 55 w.heap.size w.heap.size v1 L false wr [y]) (FactsOn [.is (.pointer (some ⟨w.heap.size, 0, none⟩)), .is (.pointer (some ⟨w.heap.size, 0, none⟩)), .is (.pointer (some ⟨w.heap.size, 0, none⟩)), .is (.pointer (some ⟨w.heap.size, 0, none⟩)), .is (v1), .is (.slice (some ⟨b, off, none⟩) n c), .is (.int .i64 (k : Int)), .is (.pointer (some ⟨b, off + k * 2, none⟩)), .is (.pointer (some ⟨b, off + k * 2, none⟩)), .is (.int .u8 (y.toNat : Int)), .new1 wr.heap.size (Wr.lt hW1) 5 (.int .u8 (y.toNat : Int)), .any, .is (.pointer (some ⟨w.heap.size, 0, none⟩)), .is (.pointer (some ⟨w.heap.size, 0, none⟩)), .any]) (fun i => if i = 4 then 0 else 99) keep_trans keep_grow (appW.grow) (factsOn_mono _) (by kernel_rfl) (by kernel_rfl) ⟨hW1, Foot.refl _ _ _⟩ ?_ ?_
    ·refine ⟨?_, ?_, ?_, ?_, ?_, ?_, ?_, ?_, ?_, ?_, ?_, ?_, ?_, ?_, ?_, trivial⟩
     ·refine sF rfl rfl ?_
      intro us vals w3 a' ha hle hW hd hv K hK
      have q4 : a'.tmps[4]? = some (.pointer (some ⟨w.heap.size, 0, none⟩)) := by rw [ha.out]; kernel_rfl
      exact sV hK rfl
     ·refine sF rfl rfl ?_
      intro us vals w3 a' ha hle hW hd hv K hK
      have q4 : a'.tmps[4]? = some (.pointer (some ⟨w.heap.size, 0, none⟩)) := by rw [ha.out]; kernel_rfl
      exact sV hK rfl
     ·refine sF rfl rfl ?_
      intro us vals w3 a' ha hle hW hd hv K hK
      obtain ⟨d1, _⟩ := hd
      have q17 : a'.tmps[17]? = some (us 1) := by rw [ha.out]; kernel_rfl
      rw [show us 1 = .pointer (some ⟨w.heap.size, 0, none⟩) from d1] at q17
      exact sV (v := .pointer (some ⟨w.heap.size, 0, none⟩)) hK rfl
     ·refine sF rfl rfl ?_
      intro us vals w3 a' ha hle hW hd hv K hK
      obtain ⟨d2, _⟩ := hd
      have q18 : a'.tmps[18]? = some (us 2) := by rw [ha.out]; kernel_rfl
      rw [show us 2 = .pointer (some ⟨w.heap.size, 0, none⟩) from d2] at q18
      exact sV (v := .pointer (some ⟨w.heap.size, 0, none⟩)) hK rfl
     ·refine sF rfl rfl ?_
      intro us vals w3 a' ha hle hW hd hv K hK
      obtain ⟨d3, _⟩ := hd
      obtain rfl := List.eq_nil_of_length_eq_zero (Nat.le_zero.1 (show vals.length ≤ 0 from hv))
      have q19 : a'.tmps[19]? = some (us 3) := by rw [ha.out]; kernel_rfl
      rw [show us 3 = .pointer (some ⟨w.heap.size, 0, none⟩) from d3] at q19
      have hc := (hW.1.cell).cell 0
      exact sV (v := v1) hK rfl
     ·refine sF rfl rfl ?_
      intro us vals w3 a' ha hle hW hd hv K hK
      have q0 : a'.tmps[0]? = some (.slice (some ⟨b, off, none⟩) n c) := by rw [ha.out]; kernel_rfl
      exact sV hK rfl
     ·refine sF rfl rfl ?_
      intro us vals w3 a' ha hle hW hd hv K hK
      have q5 : a'.tmps[5]? = some (.int .i64 (k : Int)) := by rw [ha.out]; kernel_rfl
      exact sV hK rfl
     ·refine sF rfl rfl ?_
      intro us vals w3 a' ha hle hW hd hv K hK
      obtain ⟨d5, d6, _⟩ := hd
      have q21 : a'.tmps[21]? = some (us 5) := by rw [ha.out]; kernel_rfl
      rw [show us 5 = .slice (some ⟨b, off, none⟩) n c from d5] at q21
      have q22 : a'.tmps[22]? = some (us 6) := by rw [ha.out]; kernel_rfl
      rw [show us 6 = .int .i64 (k : Int) from d6] at q22
      refine step_value (v := .pointer (some ⟨b, off + k * 2, none⟩)) (w2 := w3) ?_ (hK _ _ (Grow.refl _) rfl)
      go_simp
      (try (intro h; omega))
     ·refine sF rfl rfl ?_
      intro us vals w3 a' ha hle hW hd hv K hK
      obtain ⟨d7, _⟩ := hd
      have q23 : a'.tmps[23]? = some (us 7) := by rw [ha.out]; kernel_rfl
      rw [show us 7 = .pointer (some ⟨b, off + k * 2, none⟩) from d7] at q23
      exact sV (v := .pointer (some ⟨b, off + k * 2, none⟩)) hK rfl
     ·refine sF rfl rfl ?_
      intro us vals w3 a' ha hle hW hd hv K hK
      obtain ⟨d8, _⟩ := hd
      have q24 : a'.tmps[24]? = some (us 8) := by rw [ha.out]; kernel_rfl
      rw [show us 8 = .pointer (some ⟨b, off + k * 2, none⟩) from d8] at q24
      have hc : w3.cell? ⟨b, off + k * 2, none⟩ = some (.int .u8 (y.toNat : Int)) := (hle.cell (p := ⟨b, off + k * 2, none⟩) hzb hbf).trans hc0
      exact sV (v := .int .u8 (y.toNat : Int)) hK rfl
     ·refine sF rfl rfl ?_
      intro us vals w3 a' ha hle hW hd hv K hK
      obtain ⟨d9, _⟩ := hd
      have q25 : a'.tmps[25]? = some (us 9) := by rw [ha.out]; kernel_rfl
      rw [show us 9 = .int .u8 (y.toNat : Int) from d9] at q25
      refine step_value (v := .slice (some ⟨w3.heap.size, 0, none⟩) 1 1) (w2 := w3.alloc (.cells #[.int .u8 (y.toNat : Int)] 5)) (by go_simp) (hK _ _ (Grow.alloc _ _) ?_)
      exact ⟨_, rfl, hle.size, Blk.new _ _ _⟩
     ·refine stageOf_mem (t := 0) rfl ?_
      intro us vals w3 a' ha hle hW hd hv
      obtain ⟨d4, ⟨m10, u10, z10, b10⟩, _⟩ := hd
      obtain rfl := List.eq_nil_of_length_eq_zero (Nat.le_zero.1 (show vals.length ≤ 0 from Nat.le_of_eq hv))
      refine ⟨wanted_none rfl, fun K hK => ?_⟩
      have q20 : a'.tmps[20]? = some (us 4) := by rw [ha.out]; kernel_rfl
      rw [show us 4 = v1 from d4] at q20
      have q26 : a'.tmps[26]? = some (us 10) := by rw [ha.out]; kernel_rfl
      rw [u10] at q26
      have hB := Nat.le_trans hW.1.base (Nat.le_of_lt hW.1.cell.lt)
      refine wp_append_reads w3 (.tmp 20) (.tmp 26) rfl bytesTy (evalT q20) hW.1.own (evalT q26) b10.reads1 (by simp [Value.oneCell']) (by simp only [maxLen]; omega) (by omega) hB ?_
      intro v2 w4 ho hg hat
      have h2 := hW.app (news := [y]) hT ho hg hat
      exact hK _ _ h2.1 h2.2
     ·refine sF rfl rfl ?_
      intro us vals w3 a' ha hle hW hd hv K hK
      obtain ⟨d0, _, _, _, _, _, _, _, _, _, _, _, _, _⟩ := hd
      have q16 : a'.tmps[16]? = some (us 0) := by rw [ha.out]; kernel_rfl
      rw [show us 0 = .pointer (some ⟨w.heap.size, 0, none⟩) from d0] at q16
      exact sV (v := .pointer (some ⟨w.heap.size, 0, none⟩)) hK rfl
     ·refine sF rfl rfl ?_
      intro us vals w3 a' ha hle hW hd hv K hK
      obtain ⟨d12, _, _, _, _, _, _, _, _, _, _, _, _, _⟩ := hd
      have q28 : a'.tmps[28]? = some (us 12) := by rw [ha.out]; kernel_rfl
      rw [show us 12 = .pointer (some ⟨w.heap.size, 0, none⟩) from d12] at q28
      exact sV (v := .pointer (some ⟨w.heap.size, 0, none⟩)) hK rfl
     ·refine stageOf_mem (t := 1) rfl ?_
      intro us vals w3 a' ha hle hW hd hv
      obtain ⟨d13, d11, _, _, _, _, _, _, _, _, _, _, _, _, _, _⟩ := hd
      obtain ⟨x0, rfl⟩ := List.length_eq_one_iff.1 hv
      obtain rfl : us 11 = x0 := by have h0 : some x0 = some (us 11) := d11; injection h0 with h0; exact h0.symm
      refine ⟨wanted_none rfl, fun K hK => ?_⟩
      have q29 : a'.tmps[29]? = some (us 13) := by rw [ha.out]; kernel_rfl
      rw [show us 13 = .pointer (some ⟨w.heap.size, 0, none⟩) from d13] at q29
      have q27 : a'.tmps[27]? = some (us 11) := by rw [ha.out]; kernel_rfl
      obtain ⟨A5, c5, e5, -⟩ := own_reads hW.own
      have h2 := hW.store undef
      have hf := hW.cell.frozen 0
      have hl := hW.cell.cell 0
      rw [e5] at q27
      refine step_skip (w2 := w3.setCell ⟨w.heap.size, 0, none⟩ (us 11)) ?_ (hK _ _ h2.1 h2.2)
      rw [e5]
      go_simp
    ·intro us vals w3 hle hvl hV _ _
     obtain ⟨x1, x2, rfl⟩ : ∃ x1 x2, vals = [x1, x2] := by
      match vals, hvl with
      | [a, b], _ => exact ⟨a, b, rfl⟩
     exact hMx _ _ (Met.intro (hJx _ _ ⟨us 0, us 1, us 2, us 3, us 4, us 5, us 6, us 7, us 8, us 9, us 10, us 11, us 12, us 13, ⟨_, _, rfl, hV⟩, by kernel_rfl⟩))
   case rest =>
    obtain ⟨v3, W3, rfl, hW3, hF3⟩ := hcut
    have hG3 := Lib.hid (show Grow w W3 from Below.trans hg.out (hW1.below' hF3))
    have hcP : W3.cell? ⟨b, off + k * 2 + 1, none⟩ = some (.slice A1 n1 c1) := (hF3.keep.cell (p := ⟨b, off + k * 2 + 1, none⟩) hzb hbf).trans Hc1.out
    have hr3 : BytesAt W3 w.heap.size A1 n1 t.b := Hr1.out.below (hW1.below' hF3)
    have Hr3 := Lib.hid hr3
    have HW3 := Lib.hid hW3
    clear hr3 hW3 hF3 hbf
    go_wp2_with fail
    refine (vText_any W3 w.heap.size w.heap.size v3 (L ++ [y]) false A1 n1 c1 t.b HW3.out Hr3.out (by rw [List.length_append]; simp only [List.length_cons, List.length_nil]; omega)).mono ?_
    rintro e W4 ⟨rfl, v4, l4, b4, hW4, hF4, hs4, hl4⟩
    have hp4 : putText t.b (stOf (L ++ [y]) false) = some (bodyB (ts.take (k + 1))) := by
     rw [stOf_false, putText, Hn1.out, putNum, if_pos ⟨by omega, by simp only [maxNum]; omega⟩, putBytes, Hbs.out, Hn1.out, Int.toNat_natCast]
     simp
    rw [hp4] at hs4
    obtain rfl : b4 = false := by cases b4; rfl; cases hs4
    obtain rfl : l4 = bodyB (ts.take (k + 1)) := by injection hs4
    have HW4 := Lib.hid hW4
    have HG4 := Lib.hid (show Grow w W4 from Below.trans hG3.out (HW3.out.below' hF4))
    clear hW4 hF4 hs4 hl4 hp4
    go_wp2
    go_roundw
    case rel => exact ⟨k + 1, v4, by omega, by go_num, HW4, HG4⟩
    case measure => simp [intOf]; omega
  ·obtain rfl : k = n := by omega
   have htk : ts.take k = ts := List.take_of_length_le (by rw [Hlen.out]; exact Nat.le_refl _)
   have hW0 := hW.out
   rw [htk] at hW0
   have hgz := hg.out.size
   obtain ⟨A4, c4, rfl, h41, h42, h43⟩ := own_reads hW0.own
   have hc40 := hW0.cell.cell 0
   have hd : decide ((67108864 : Int) < ((bodyB ts).length : Int) + 8) = false := decide_eq_false (by omega)
   obtain ⟨m, hm⟩ : ∃ m, m = (bodyB ts).length := ⟨_, rfl⟩
   have Hm := Lib.hid hm
   have HW0 := Lib.hid hW0
   have H43 := Lib.hid h43
   clear htk hW hW0 h43 hm
   obtain ⟨x, hx⟩ : ∃ x : BitVec 32, x = BitVec.ofNat 32 (8 + (bodyB ts).length) := ⟨_, rfl⟩
   have hxn : (x.toNat : Int) = ((bodyB ts).length : Int) + 8 := by rw [hx]; simp only [BitVec.toNat_ofNat]; omega
   have hhd : fourB x ++ bodyB ts = headB ts := by rw [hx, headB]
   have hV0 : Wr 55 (wr.alloc (.cells #[.slice none 0 0, .bool false] 55)) wr.heap.size wr.heap.size (.slice none 0 0) [] false := ⟨Blk.new _ _ _, World.ownsRow_nil _ _ _ _, Nat.le_refl _⟩
   have hfx := vFixed_any _ _ _ _ _ _ x hV0 (by simp)
   rw [hxn] at hfx
   have Hfx := Lib.hid hfx
   have Hhd := Lib.hid hhd
   have hG1 := Grow.alloc wr (.cells #[.slice none 0 0, .bool false] 55)
   have hW5 := HW0.out.grow hG1
   clear hx hxn hfx hhd hV0
   go_wp2_with fail
   refine Hfx.out.mono ?_
   rintro e W5 ⟨rfl, v5, l5, b5, hV5, hF5, hs5, hl5⟩
   have hp5 : putFixed x.toNat (stOf [] false) = some (fourB x) := rfl
   rw [hp5] at hs5
   obtain rfl : b5 = false := by cases b5; rfl; cases hs5
   obtain rfl : l5 = fourB x := by injection hs5
   have hG5 : Grow wr W5 := Below.trans hG1 (hF5.keep.below (fun q hq => by rcases hq with h | h; omega; simp [Value.ownBlock] at h) (by simp))
   have hW5 := HW0.out.grow hG5
   have hVge := hV5.ge
   have hAB : ∀ ad, A4 = some ad → ad.block < wr.heap.size := fun ad e => by
    have h := HW0.out.own
    rcases h.2 with ⟨h2, _⟩ | ⟨q, _, _, h2, _⟩
    ·injection h2 with h2; rw [h2] at e; cases e
    ·injection h2 with h2; rw [h2] at e; injection e with e; subst e
     exact (h.lt q (by rw [show Value.slice A4 (bodyB ts).length c4 = Value.slice (some ⟨q, 0, none⟩) (bodyB ts).length c4 by rw [h2]]; rfl)).2
   have hS5 : ∀ q, FootS wr.heap.size v5 q → wr.heap.size ≤ q := hVge
   have hWn : ∀ q, FootS wr.heap.size v5 q → q ≠ w.heap.size := fun q hq => by have h1 := hVge q hq; have h2 := HW0.out.cell.lt; omega
   have hR5 : ∀ W, Keep (FootS wr.heap.size v5) W5 W → BytesAt W W.heap.size A4 (bodyB ts).length (bodyB ts) := fun W hk => ReadsAt.more (hk.reads (ReadsAt.more (ReadsAt.below H43.out hG5) hG5.size) (Nat.le_refl _) (fun ad e hs => by have h1 := hAB ad e; have h2 := hVge _ hs; omega)) hk.size
   have HG5 := Lib.hid (show Grow w W5 from hg.out.trans hG5)
   have hwb : Blk W5 w.heap.size 55 #[.slice A4 (bodyB ts).length c4, .bool false] := hW5.cell
   have hwgz := HW0.out.cell.lt
   have hz5 := hG5.size
   have hl4 : (fourB x).length = 4 := rfl
   clear hs5 hl5 hp5 hF5 hW5 hG1 hG5
   go_upto_region 12 with (fail)
   go_cut [60] from 51 to 62 (fun v60 wx => ∃ (v6 : Value) (W6 : World), W6 = wx ∧ Wr 55 W6 wr.heap.size wr.heap.size v6 (fourB x ++ bodyB ts) false ∧ Foot W5 wr.heap.size v5 W6 v6)
   case first Jx Kx hJx hMx =>
    refine wp_region_stages (by kernel_rfl) ?_
    refine anyOrder_start [9, 12] (Keep (FootS wr.heap.size v5)) (appW 55 wr.heap.size wr.heap.size v5 (fourB x) false W5 (bodyB ts)) (FactsOn [.is (.pointer (some ⟨wr.heap.size, 0, none⟩)), .is (.pointer (some ⟨wr.heap.size, 0, none⟩)), .is (.pointer (some ⟨wr.heap.size, 0, none⟩)), .is (.pointer (some ⟨wr.heap.size, 0, none⟩)), .is (v5), .is (.pointer (some ⟨w.heap.size, 0, none⟩)), .is (.pointer (some ⟨w.heap.size, 0, none⟩)), .is (.pointer (some ⟨w.heap.size, 0, none⟩)), .is (.slice A4 (bodyB ts).length c4), .any, .is (.pointer (some ⟨wr.heap.size, 0, none⟩)), .is (.pointer (some ⟨wr.heap.size, 0, none⟩)), .any]) (fun i => if i = 4 then 0 else 99) keep_trans keep_grow (appW.grow) (factsOn_mono _) (by kernel_rfl) (by kernel_rfl) ⟨hV5, Foot.refl _ _ _⟩ ?_ ?_
    ·refine ⟨?_, ?_, ?_, ?_, ?_, ?_, ?_, ?_, ?_, ?_, ?_, ?_, ?_, trivial⟩
     ·refine sF rfl rfl ?_
      intro us vals w3 a' ha hle hW hd hv K hK
      have q7 : a'.tmps[7]? = some (.pointer (some ⟨wr.heap.size, 0, none⟩)) := by rw [ha.out]; kernel_rfl
      exact sV hK rfl
     ·refine sF rfl rfl ?_
      intro us vals w3 a' ha hle hW hd hv K hK
      have q7 : a'.tmps[7]? = some (.pointer (some ⟨wr.heap.size, 0, none⟩)) := by rw [ha.out]; kernel_rfl
      exact sV hK rfl
     ·refine sF rfl rfl ?_
      intro us vals w3 a' ha hle hW hd hv K hK
      obtain ⟨d1, _⟩ := hd
      have q52 : a'.tmps[52]? = some (us 1) := by rw [ha.out]; kernel_rfl
      rw [show us 1 = .pointer (some ⟨wr.heap.size, 0, none⟩) from d1] at q52
      exact sV (v := .pointer (some ⟨wr.heap.size, 0, none⟩)) hK rfl
     ·refine sF rfl rfl ?_
      intro us vals w3 a' ha hle hW hd hv K hK
      obtain ⟨d2, _⟩ := hd
      have q53 : a'.tmps[53]? = some (us 2) := by rw [ha.out]; kernel_rfl
      rw [show us 2 = .pointer (some ⟨wr.heap.size, 0, none⟩) from d2] at q53
      exact sV (v := .pointer (some ⟨wr.heap.size, 0, none⟩)) hK rfl
     ·refine sF rfl rfl ?_
      intro us vals w3 a' ha hle hW hd hv K hK
      obtain ⟨d3, _⟩ := hd
      obtain rfl := List.eq_nil_of_length_eq_zero (Nat.le_zero.1 (show vals.length ≤ 0 from hv))
      have q54 : a'.tmps[54]? = some (us 3) := by rw [ha.out]; kernel_rfl
      rw [show us 3 = .pointer (some ⟨wr.heap.size, 0, none⟩) from d3] at q54
      have hc := (hW.1.cell).cell 0
      exact sV (v := v5) hK rfl
     ·refine sF rfl rfl ?_
      intro us vals w3 a' ha hle hW hd hv K hK
      have q4 : a'.tmps[4]? = some (.pointer (some ⟨w.heap.size, 0, none⟩)) := by rw [ha.out]; kernel_rfl
      exact sV hK rfl
     ·refine sF rfl rfl ?_
      intro us vals w3 a' ha hle hW hd hv K hK
      obtain ⟨d5, _⟩ := hd
      have q56 : a'.tmps[56]? = some (us 5) := by rw [ha.out]; kernel_rfl
      rw [show us 5 = .pointer (some ⟨w.heap.size, 0, none⟩) from d5] at q56
      exact sV (v := .pointer (some ⟨w.heap.size, 0, none⟩)) hK rfl
     ·refine sF rfl rfl ?_
      intro us vals w3 a' ha hle hW hd hv K hK
      obtain ⟨d6, _⟩ := hd
      have q57 : a'.tmps[57]? = some (us 6) := by rw [ha.out]; kernel_rfl
      rw [show us 6 = .pointer (some ⟨w.heap.size, 0, none⟩) from d6] at q57
      exact sV (v := .pointer (some ⟨w.heap.size, 0, none⟩)) hK rfl
     ·refine sF rfl rfl ?_
      intro us vals w3 a' ha hle hW hd hv K hK
      obtain ⟨d7, _⟩ := hd
      have q58 : a'.tmps[58]? = some (us 7) := by rw [ha.out]; kernel_rfl
      rw [show us 7 = .pointer (some ⟨w.heap.size, 0, none⟩) from d7] at q58
      have hc := (hle.blk hwb (fun h => hWn _ h rfl)).cell 0
      exact sV (v := .slice A4 (bodyB ts).length c4) hK rfl
     ·refine stageOf_mem (t := 0) rfl ?_
      intro us vals w3 a' ha hle hW hd hv
      obtain ⟨d4, d8, _⟩ := hd
      obtain rfl := List.eq_nil_of_length_eq_zero (Nat.le_zero.1 (show vals.length ≤ 0 from Nat.le_of_eq hv))
      refine ⟨wanted_none rfl, fun K hK => ?_⟩
      have q55 : a'.tmps[55]? = some (us 4) := by rw [ha.out]; kernel_rfl
      rw [show us 4 = v5 from d4] at q55
      have q59 : a'.tmps[59]? = some (us 8) := by rw [ha.out]; kernel_rfl
      rw [show us 8 = .slice A4 (bodyB ts).length c4 from d8] at q59
      have hB := Nat.le_trans hW.1.base (Nat.le_of_lt hW.1.cell.lt)
      refine wp_append_reads w3 (.tmp 55) (.tmp 59) rfl bytesTy (evalT q55) hW.1.own (evalT q59) (hR5 w3 hle) (b8_one _) (by simp only [maxLen]; omega) (by omega) hB ?_
      intro v2 w4 ho hg hat
      have h2 := hW.app (news := bodyB ts) hT ho hg hat
      exact hK _ _ h2.1 h2.2
     ·refine sF rfl rfl ?_
      intro us vals w3 a' ha hle hW hd hv K hK
      obtain ⟨d0, _, _, _, _, _, _, _, _, _, _, _⟩ := hd
      have q51 : a'.tmps[51]? = some (us 0) := by rw [ha.out]; kernel_rfl
      rw [show us 0 = .pointer (some ⟨wr.heap.size, 0, none⟩) from d0] at q51
      exact sV (v := .pointer (some ⟨wr.heap.size, 0, none⟩)) hK rfl
     ·refine sF rfl rfl ?_
      intro us vals w3 a' ha hle hW hd hv K hK
      obtain ⟨d10, _, _, _, _, _, _, _, _, _, _, _⟩ := hd
      have q61 : a'.tmps[61]? = some (us 10) := by rw [ha.out]; kernel_rfl
      rw [show us 10 = .pointer (some ⟨wr.heap.size, 0, none⟩) from d10] at q61
      exact sV (v := .pointer (some ⟨wr.heap.size, 0, none⟩)) hK rfl
     ·refine stageOf_mem (t := 1) rfl ?_
      intro us vals w3 a' ha hle hW hd hv
      obtain ⟨d11, d9, _, _, _, _, _, _, _, _, _, _, _, _⟩ := hd
      obtain ⟨x0, rfl⟩ := List.length_eq_one_iff.1 hv
      obtain rfl : us 9 = x0 := by have h0 : some x0 = some (us 9) := d9; injection h0 with h0; exact h0.symm
      refine ⟨wanted_none rfl, fun K hK => ?_⟩
      have q62 : a'.tmps[62]? = some (us 11) := by rw [ha.out]; kernel_rfl
      rw [show us 11 = .pointer (some ⟨wr.heap.size, 0, none⟩) from d11] at q62
      have q60 : a'.tmps[60]? = some (us 9) := by rw [ha.out]; kernel_rfl
      obtain ⟨A5, c5, e5, -⟩ := own_reads hW.own
      have h2 := hW.store undef
      have hf := hW.cell.frozen 0
      have hl := hW.cell.cell 0
      rw [e5] at q60
      refine step_skip (w2 := w3.setCell ⟨wr.heap.size, 0, none⟩ (us 9)) ?_ (hK _ _ h2.1 h2.2)
      rw [e5]
      go_simp
    ·intro us vals w3 hle hvl hV _ _
     obtain ⟨x1, x2, rfl⟩ : ∃ x1 x2, vals = [x1, x2] := by
      match vals, hvl with
      | [a, b], _ => exact ⟨a, b, rfl⟩
     exact hMx _ _ (Met.intro (hJx _ _ ⟨us 0, us 1, us 2, us 3, us 4, us 5, us 6, us 7, us 8, us 9, us 10, us 11, ⟨_, _, rfl, hV⟩, by kernel_rfl⟩))
   case rest =>
    obtain ⟨v6, W6, rfl, hV6, hF6⟩ := hcut
    rw [Hhd.out] at hV6
    have hG6 : Grow w W6 := Below.trans HG5.out (Below.mono (hF6.keep.below hS5 (by omega)) (by have := hg.out.size; omega))
    obtain ⟨A6, c6, rfl, h61, h62, h63⟩ := own_reads hV6.own
    have hc60 := hV6.cell.cell 0
    have HV6 := Lib.hid hV6
    have H63 := Lib.hid h63
    have HG6 := Lib.hid hG6
    have hhl : (headB ts).length ≤ 67108860 := by rw [headB_len]; omega
    clear hV6 hF6 h63 hG6 hwb hR5
    go_wp2_with fail
    refine (rOne_any W6 _ A6 _ c6 (headB ts) H63.out h61 h62).mono ?_
    rintro e W7 ⟨rfl, rfl⟩
    go_wp2_with fail
    refine (vFixed_any W6 _ _ _ _ _ (CrcM.sum (headB ts)) HV6.out (by omega)).mono ?_
    rintro e W8 ⟨rfl, v8, l8, b8', hV8, hF8, hs8, hl8⟩
    have hp8 : putFixed (CrcM.sum (headB ts)).toNat (stOf (headB ts) false) = some (fileB ts) := rfl
    rw [hp8] at hs8
    obtain rfl : b8' = false := by cases b8'; rfl; cases hs8
    obtain rfl : l8 = fileB ts := by injection hs8
    have hG8 : Grow w W8 := Below.trans HG6.out (Below.mono (HV6.out.below' hF8) (by have := hg.out.size; omega))
    obtain ⟨A8, c8, rfl, -, -, -⟩ := own_reads hV8.own
    have hc80 := hV8.cell.cell 0
    have HV8 := Lib.hid hV8
    have HG8 := Lib.hid hG8
    have hle8 : w.heap.size ≤ wr.heap.size := hg.out.size
    clear hV8 hF8 hs8 hl8 hp8 hG8
    go_wp2
    go_ret2
    exact ⟨_, rfl, own_base HV8.out.own hle8, HG8.out⟩
end Go.Proofs.YtcimkoehcdfjdaaGreatDoor
