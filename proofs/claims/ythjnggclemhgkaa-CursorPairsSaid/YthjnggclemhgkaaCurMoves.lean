/-
  The walk of mudlarklaw20.CursorMoves: whatever cursors are made over whatever others, whatever moves they make.
-/
import Derived.Test.YthjnggclemhgkaaCurBuild
import Derived.Test.YthjnggclemhgkaaCurMoved
import Derived.Test.YthjnggclemhgkaaCurAwake
namespace Go.Proofs.Ythjnggclemhgkaa
open Go.RowKit CurM
set_option linter.unusedVariables false

theorem Cur.nil {d : Nat} {w : World} {L : List Int} {F : Nat → Prop} (h : Cur d w (.pointer none) L F) : L = [] := by
  cases L with
  | nil => rfl
  | cons x t =>
    obtain ⟨g, mv, e, -⟩ := h.ptr
    cases e
/-- one tree, as a row of trees -/
theorem TreesAt.one {d B : Nat} {w : World} {t : TreeM} {cs : List Value} (h : TreeCells d w B cs t) (hl : cs.length = 4) (hB : B ≤ w.heap.size) : TreesAt d (w.alloc (.cells cs.toArray 25)) (w.alloc (.cells cs.toArray 25)).heap.size (some ⟨w.heap.size, 0, none⟩) 1 [t] :=
  ⟨rfl, fun _ => ⟨w.heap.size, 0, rfl, by simp, fun j a hj => by
    obtain ⟨rfl, rfl⟩ : j = 0 ∧ t = a := by
      match j, hj with
      | 0, hj => injection hj with hj; exact ⟨rfl, hj⟩
    refine ⟨cs, hl, (h.below (Below.mono (Grow.alloc w _) hB)).more (by simp; omega), fun i u hu => ?_⟩
    simp only [Nat.zero_mul, Nat.zero_add]
    rw [(Blk.new w 25 cs.toArray).cell]
    simpa using hu⟩⟩
def MovesTo (w : World) (e : Ending) (w' : World) : Prop := e = .returned (.bool true) ∧ Grow w w'
set_option maxRecDepth 100000 in
set_option maxHeartbeats 8000000 in
theorem moves_any (w : World) (B : Nat) (t : TreeM) (cs : List Value) (A0 : Option Addr) (n0 c0 : Nat) (ms : List (Int × Int)) (hT : TreeCells 6 w B cs t) (hM : MovesAt w B A0 n0 ms) (hB : B ≤ w.heap.size) (hn : n0 ≤ 8796093022207) :
    Calls Try.prog 3 #[.agg cs.toArray, .slice A0 n0 c0] w (MovesTo w) := by
  have hcl : ∃ x0 x1 x2 x3 : Value, cs = [x0, x1, x2, x3] := by
    obtain ⟨A1, n1, c1, A2, n2, c2, A3, n3, c3, rfl, -⟩ := hT
    exact ⟨_, _, _, _, rfl⟩
  obtain ⟨x0, x1, x2, x3, rfl⟩ := hcl
  have hx : (∃ x, x0 = .int .i64 x) ∧ (∃ A n c, x1 = .slice A n c) ∧ (∃ A n c, x2 = .slice A n c) ∧ ∃ A n c, x3 = .slice A n c := by
    obtain ⟨A1, n1, c1, A2, n2, c2, A3, n3, c3, e, -⟩ := hT
    injection e with e0 e
    injection e with e1 e
    injection e with e2 e
    injection e with e3 e
    exact ⟨⟨_, e0⟩, ⟨_, _, _, e1⟩, ⟨_, _, _, e2⟩, _, _, _, e3⟩
  obtain ⟨⟨wh, rfl⟩, ⟨A1, n1, c1, rfl⟩, ⟨A2, n2, c2, rfl⟩, A3, n3, c3, rfl⟩ := hx
  have hml : ms.length = n0 := hM.1
  obtain ⟨W0, hW0⟩ : ∃ W0, w.alloc (.cells #[.int .i64 wh, .slice A1 n1 c1, .slice A2 n2 c2, .slice A3 n3 c3] 25) = W0 := ⟨_, rfl⟩
  have hg0 : Grow w W0 := by rw [← hW0]; exact Grow.alloc _ _
  have hb0 : Blk W0 w.heap.size 25 #[.int .i64 wh, .slice A1 n1 c1, .slice A2 n2 c2, .slice A3 n3 c3] := by rw [← hW0]; exact Blk.new _ _ _
  obtain ⟨W1, hW1⟩ : ∃ W1, W0.alloc (.cells #[.int .i64 wh, .slice A1 n1 c1, .slice A2 n2 c2, .slice A3 n3 c3] 25) = W1 := ⟨_, rfl⟩
  have hg1 : Grow W0 W1 := by rw [← hW1]; exact Grow.alloc _ _
  have hT0 : TreeCells 6 W0 W0.heap.size [.int .i64 wh, .slice A1 n1 c1, .slice A2 n2 c2, .slice A3 n3 c3] t := (hT.below (Below.mono hg0 hB)).more (Nat.le_trans hB hg0.size)
  have hTs : TreesAt 6 W1 W1.heap.size (some ⟨W0.heap.size, 0, none⟩) 1 [t] := by
    rw [← hW1]
    exact TreesAt.one hT0 rfl (Nat.le_refl _)
  have hb1 := Grow.blk hg1 hb0
  have hsz := size_bound 6 hTs (by omega)
  obtain ⟨S, hS⟩ : ∃ S, S = sizeN 6 [t] := ⟨_, rfl⟩
  have Hsize := Lib.hid (size_any 6 W1 W1.heap.size (some ⟨W0.heap.size, 0, none⟩) 1 1 [t] (by omega) hTs (Nat.le_refl _) (by omega))
  rw [← hS] at Hsize hsz
  have HS := Lib.hid hS
  have HM := Lib.hid hM
  have HT := Lib.hid hT
  have Hml := Lib.hid hml
  have Hg1 := Lib.hid (hg0.trans hg1)
  have Hb1 := Lib.hid hb1
  have hc0 := hb0.cell 0
  have hc1 := hb0.cell 1
  have hc2 := hb0.cell 2
  have hc3 := hb0.cell 3
  have hz0 := hb0.lt
  clear hT hM hml hg0 hg1 hT0 hTs hb1 hb0 hS
  go_enter Try.func3, Try.ntmps3
  go_wp2_with fail
  refine Hsize.out.mono ?_
  rintro e w2 ⟨rfl, hg2⟩
  have hb2 := Grow.blk hg2 Hb1.out
  have Hg2 := Lib.hid (Hg1.out.trans hg2)
  have Hb2 := Lib.hid hb2
  clear hc0 hc1 hc2 hc3 hb2 hg2 Hsize hW0 hW1
  by_cases hbig : 600 < S + n0
  · have d1 : decide ((600 : Int) < (S : Int) + (n0 : Int)) = true := decide_eq_true (by omega)
    have Haw := Lib.hid (awake20_any w2)
    go_wp2_with fail
    refine Haw.out.mono ?_
    rintro e w3 ⟨rfl, hg3⟩
    have Hg3 := Lib.hid (Hg2.out.trans hg3)
    clear hg3 Haw
    go_wp2
    go_ret
    exact ⟨rfl, Hg3.out⟩
  · have d1 : decide ((600 : Int) < (S : Int) + (n0 : Int)) = false := decide_eq_false (by omega)
    have hwt : wt 6 t ≤ 600 := by
      have h1 := size_wt 6 [t] (by rw [← HS.out]; omega)
      simp only [List.map_cons, List.map_nil, List.sum_cons, List.sum_nil, Nat.add_zero] at h1
      rw [← h1, ← HS.out]
      omega
    have Hrl := Lib.hid (rest_len 6 t HT.out.wide)
    have Hbuild := Lib.hid (build_step 5 (build_any 5) w2 B t [.int .i64 wh, .slice A1 n1 c1, .slice A2 n2 c2, .slice A3 n3 c3] (HT.out.below (Below.mono Hg2.out hB)) (Nat.le_trans hB Hg2.out.size) hwt)
    have hc0 := Hb2.out.cell 0
    have hc1 := Hb2.out.cell 1
    have hc2 := Hb2.out.cell 2
    have hc3 := Hb2.out.cell 3
    go_wp2_with fail
    refine Hbuild.out.mono ?_
    rintro e w3 ⟨v, r, rfl, hP, hg3⟩
    obtain ⟨F, A, n, c, h3, f3, rfl, v3⟩ := hP
    obtain ⟨p, rfl⟩ := h3.isPtr
    have hnl := v3.len
    rw [List.length_map] at hnl
    obtain ⟨L, hL⟩ : ∃ L, L = restOf 6 t := ⟨_, rfl⟩
    have hLb : n ≤ 180000 := by
      have h1 := Hrl.out
      have h2 : (restOf 6 t).length = n := hnl
      omega
    rw [← hL] at h3 v3 hnl
    have hr3 : RestAt w3 F A n c L := v3.kept (S := fun _ => False) (Keep.refl _ _) (fun _ _ _ h => h) fun j hj _ => hj.2
    have Hst := Lib.hid (stands_any w3 (.pointer p) L F (fun j => ¬ F j) A n c h3 hr3 fun j hj => hj)
    have Hnil := Lib.hid (show p = none → n = 0 from fun e => by
      subst e
      rw [← hnl, h3.nil]
      rfl)
    have H3 := Lib.hid h3
    have Hf3 := Lib.hid f3
    have Hr3 := Lib.hid hr3
    have Hg3 := Lib.hid (Hg2.out.trans hg3)
    have hwz := Hg2.out.size
    clear h3 f3 hr3 v3 hg3 hnl hL Hbuild hc0 hc1 hc2 hc3
    cases p with
    | none =>
      obtain rfl : n = 0 := Hnil.out rfl
      go_wp2_with fail
      refine Hst.out.mono ?_
      rintro e w4 ⟨rfl, F4, h4, k4, f4⟩
      have hr4 := Hr3.out.moved k4 f4
      have Hg4 := Lib.hid (show Grow w w4 from Below.trans Hg3.out (k4.below (fun j hj => Nat.le_trans hwz (Hf3.out j hj)) Hg3.out.size))
      have Hf4 := Lib.hid (show ∀ j, F4 j → w.heap.size ≤ j from fun j hj => by
        rcases f4 j hj with h9 | h9
        · exact Nat.le_trans hwz (Hf3.out j h9)
        · exact Nat.le_trans Hg3.out.size h9)
      have H4 := Lib.hid h4
      have Hr4 := Lib.hid hr4
      clear h4 k4 f4 hr4 Hst
      go_wp2_with fail
      go_loopw [6, 7] (fun v6 v7 wr => ∃ (i : Nat) (L : List Int) (A : Option Addr) (n c : Nat) (F : Nat → Prop), i ≤ n0 ∧ v6 = .slice A n c ∧ v7 = .int .i64 (i : Int) ∧ n ≤ 180000 ∧ Hid (Cur 6 wr (.pointer none) L F) ∧ Hid (RestAt wr F A n c L) ∧ Hid (∀ j, F j → w.heap.size ≤ j) ∧ Hid (Grow w wr)) (fun _ v7 _ => n0 - (intOf v7).toNat)
      case atStart => exact ⟨0, L, A, _, c, F4, by omega, rfl, rfl, hLb, H4, Hr4, Hf4, Hg4⟩
      case round =>
        obtain ⟨i, L, A, n, c, F, hi, rfl, rfl, hnb, hc, hr, hf, hg⟩ := hrel
        by_cases hlt : i < n0
        · have d2 : decide ((i : Int) < (n0 : Int)) = true := decide_eq_true (by omega)
          obtain ⟨m, hm⟩ : ∃ m, ms[i]? = some m := ⟨_, List.getElem?_eq_getElem (by rw [Hml.out]; exact hlt)⟩
          obtain ⟨b, off, hA, hbB, m1, m2, m3, m4⟩ := HM.out.at_ hm
          have e1 : wr.cell? ⟨b, off + i * 2, none⟩ = some (.int .i64 m.1) := (hg.out.cell (p := ⟨b, off + i * 2, none⟩) (by show b < w.heap.size; omega)).trans m1
          have e2 : wr.cell? ⟨b, off + i * 2 + 1, none⟩ = some (.int .i64 m.2) := (hg.out.cell (p := ⟨b, off + i * 2 + 1, none⟩) (by show b < w.heap.size; omega)).trans m2
          have Hmv := Lib.hid (moved_any 6 wr (.pointer none) L F A n c m.1 m.2 hc.out hr.out (by omega) m3 m4)
          subst hA
          clear hm m1 m2 m3 m4
          go_wp2_with fail
          refine Hmv.out.mono ?_
          rintro e w5 ⟨A5, n5, c5, L5, F5, rfl, h5, r5, hn5, k5, f5⟩
          have Hst := Lib.hid (stands_any w5 (.pointer none) L5 F5 (fun j => ¬ F5 j) A5 n5 c5 h5 r5 fun j hj => hj)
          have Hr5 := Lib.hid r5
          have hn5b : n5 ≤ 180000 := by omega
          have Hg5 := Lib.hid (show Grow w w5 from Below.trans hg.out (k5.below (fun j hj => hf.out j hj) hg.out.size))
          have Hf5 := Lib.hid (show ∀ j, F5 j → w.heap.size ≤ j from fun j hj => by
            rcases f5 j hj with h9 | h9
            · exact hf.out j h9
            · exact Nat.le_trans hg.out.size h9)
          clear h5 r5 k5 f5 e1 e2 Hmv hc hr hf hg
          go_wp2_with fail
          refine Hst.out.mono ?_
          rintro e w6 ⟨rfl, F6, h6, k6, f6⟩
          have Hr6 := Lib.hid (Hr5.out.moved k6 f6)
          have Hg6 := Lib.hid (show Grow w w6 from Below.trans Hg5.out (k6.below (fun j hj => Hf5.out j hj) Hg5.out.size))
          have Hf6 := Lib.hid (show ∀ j, F6 j → w.heap.size ≤ j from fun j hj => by
            rcases f6 j hj with h9 | h9
            · exact Hf5.out j h9
            · exact Nat.le_trans Hg5.out.size h9)
          have H6 := Lib.hid h6
          clear h6 k6 f6 Hst
          go_wp2
          go_roundw
          case rel => exact ⟨i + 1, L5, A5, n5, c5, F6, by omega, rfl, by go_num, hn5b, H6, Hr6, Hf6, Hg6⟩
          case measure => simp [intOf]; omega
        · obtain rfl : i = n0 := by omega
          have d2 : decide ((i : Int) < (i : Int)) = false := decide_eq_false (by omega)
          have hln : L.length = n := hr.out.len
          have Htk := Lib.hid (cTake_any 6 wr none L F 1048576 hc.out (by omega))
          have Hln := Lib.hid hln
          clear hln
          go_wp2_with fail
          refine Htk.out.mono ?_
          rintro e w5 ⟨x, rfl, ho, F5, h5, k5, f5⟩
          have r5 := hr.out.moved k5 f5
          obtain ⟨A9, c9, rfl, -, hc9, hr9⟩ := own_reads ho
          have eT : L.take (1048576 : Int).toNat = L := List.take_of_length_le (by rw [Hln.out]; show n ≤ 1048576; omega)
          rw [eT] at hr9
          rw [eT]
          have hsm := SameInts_any w5 w5.heap.size w5.heap.size A9 A L.length c9 n c L L hr9 r5.ints (by rw [Hln.out]; unfold maxLen; omega) (by unfold maxLen; omega)
          rw [sameL_self] at hsm
          have Hsm := Lib.hid hsm
          have Hg5 := Lib.hid (show Grow w w5 from Below.trans hg.out (k5.below (fun j hj => hf.out j hj) hg.out.size))
          clear hsm hr9 hc9 eT r5 h5 k5 f5 ho Htk hc hr hf hg
          go_wp2_with fail
          refine Hsm.out.mono ?_
          rintro e w6 ⟨rfl, q, hw6⟩
          have Hg6 := Lib.hid (show Grow w w6 from by rw [← hw6]; exact Hg5.out.trans (Grow.drewN _ _))
          clear hw6 Hsm
          have Haw := Lib.hid (awake20_any w6)
          go_wp2_with fail
          refine Haw.out.mono ?_
          rintro e w7 ⟨rfl, hg7⟩
          have Hg7 := Lib.hid (Hg6.out.trans hg7)
          clear hg7 Haw
          go_wp2
          go_ret
          exact ⟨rfl, Hg7.out⟩
    | some pa =>
      go_wp2_with fail
      refine Hst.out.mono ?_
      rintro e w4 ⟨rfl, F4, h4, k4, f4⟩
      have hr4 := Hr3.out.moved k4 f4
      have Hg4 := Lib.hid (show Grow w w4 from Below.trans Hg3.out (k4.below (fun j hj => Nat.le_trans hwz (Hf3.out j hj)) Hg3.out.size))
      have Hf4 := Lib.hid (show ∀ j, F4 j → w.heap.size ≤ j from fun j hj => by
        rcases f4 j hj with h9 | h9
        · exact Nat.le_trans hwz (Hf3.out j h9)
        · exact Nat.le_trans Hg3.out.size h9)
      have H4 := Lib.hid h4
      have Hr4 := Lib.hid hr4
      clear h4 k4 f4 hr4 Hst
      go_wp2_with fail
      go_loopw [6, 7] (fun v6 v7 wr => ∃ (i : Nat) (L : List Int) (A : Option Addr) (n c : Nat) (F : Nat → Prop), i ≤ n0 ∧ v6 = .slice A n c ∧ v7 = .int .i64 (i : Int) ∧ n ≤ 180000 ∧ Hid (Cur 6 wr (.pointer (some pa)) L F) ∧ Hid (RestAt wr F A n c L) ∧ Hid (∀ j, F j → w.heap.size ≤ j) ∧ Hid (Grow w wr)) (fun _ v7 _ => n0 - (intOf v7).toNat)
      case atStart => exact ⟨0, L, A, _, c, F4, by omega, rfl, rfl, hLb, H4, Hr4, Hf4, Hg4⟩
      case round =>
        obtain ⟨i, L, A, n, c, F, hi, rfl, rfl, hnb, hc, hr, hf, hg⟩ := hrel
        by_cases hlt : i < n0
        · have d2 : decide ((i : Int) < (n0 : Int)) = true := decide_eq_true (by omega)
          obtain ⟨m, hm⟩ : ∃ m, ms[i]? = some m := ⟨_, List.getElem?_eq_getElem (by rw [Hml.out]; exact hlt)⟩
          obtain ⟨b, off, hA, hbB, m1, m2, m3, m4⟩ := HM.out.at_ hm
          have e1 : wr.cell? ⟨b, off + i * 2, none⟩ = some (.int .i64 m.1) := (hg.out.cell (p := ⟨b, off + i * 2, none⟩) (by show b < w.heap.size; omega)).trans m1
          have e2 : wr.cell? ⟨b, off + i * 2 + 1, none⟩ = some (.int .i64 m.2) := (hg.out.cell (p := ⟨b, off + i * 2 + 1, none⟩) (by show b < w.heap.size; omega)).trans m2
          have Hmv := Lib.hid (moved_any 6 wr (.pointer (some pa)) L F A n c m.1 m.2 hc.out hr.out (by omega) m3 m4)
          subst hA
          clear hm m1 m2 m3 m4
          go_wp2_with fail
          refine Hmv.out.mono ?_
          rintro e w5 ⟨A5, n5, c5, L5, F5, rfl, h5, r5, hn5, k5, f5⟩
          have Hst := Lib.hid (stands_any w5 (.pointer (some pa)) L5 F5 (fun j => ¬ F5 j) A5 n5 c5 h5 r5 fun j hj => hj)
          have Hr5 := Lib.hid r5
          have hn5b : n5 ≤ 180000 := by omega
          have Hg5 := Lib.hid (show Grow w w5 from Below.trans hg.out (k5.below (fun j hj => hf.out j hj) hg.out.size))
          have Hf5 := Lib.hid (show ∀ j, F5 j → w.heap.size ≤ j from fun j hj => by
            rcases f5 j hj with h9 | h9
            · exact hf.out j h9
            · exact Nat.le_trans hg.out.size h9)
          clear h5 r5 k5 f5 e1 e2 Hmv hc hr hf hg
          go_wp2_with fail
          refine Hst.out.mono ?_
          rintro e w6 ⟨rfl, F6, h6, k6, f6⟩
          have Hr6 := Lib.hid (Hr5.out.moved k6 f6)
          have Hg6 := Lib.hid (show Grow w w6 from Below.trans Hg5.out (k6.below (fun j hj => Hf5.out j hj) Hg5.out.size))
          have Hf6 := Lib.hid (show ∀ j, F6 j → w.heap.size ≤ j from fun j hj => by
            rcases f6 j hj with h9 | h9
            · exact Hf5.out j h9
            · exact Nat.le_trans Hg5.out.size h9)
          have H6 := Lib.hid h6
          clear h6 k6 f6 Hst
          go_wp2
          go_roundw
          case rel => exact ⟨i + 1, L5, A5, n5, c5, F6, by omega, rfl, by go_num, hn5b, H6, Hr6, Hf6, Hg6⟩
          case measure => simp [intOf]; omega
        · obtain rfl : i = n0 := by omega
          have d2 : decide ((i : Int) < (i : Int)) = false := decide_eq_false (by omega)
          have hln : L.length = n := hr.out.len
          have Htk := Lib.hid (cTake_any 6 wr (some pa) L F 1048576 hc.out (by omega))
          have Hln := Lib.hid hln
          clear hln
          go_wp2_with fail
          refine Htk.out.mono ?_
          rintro e w5 ⟨x, rfl, ho, F5, h5, k5, f5⟩
          have r5 := hr.out.moved k5 f5
          obtain ⟨A9, c9, rfl, -, hc9, hr9⟩ := own_reads ho
          have eT : L.take (1048576 : Int).toNat = L := List.take_of_length_le (by rw [Hln.out]; show n ≤ 1048576; omega)
          rw [eT] at hr9
          rw [eT]
          have hsm := SameInts_any w5 w5.heap.size w5.heap.size A9 A L.length c9 n c L L hr9 r5.ints (by rw [Hln.out]; unfold maxLen; omega) (by unfold maxLen; omega)
          rw [sameL_self] at hsm
          have Hsm := Lib.hid hsm
          have Hg5 := Lib.hid (show Grow w w5 from Below.trans hg.out (k5.below (fun j hj => hf.out j hj) hg.out.size))
          clear hsm hr9 hc9 eT r5 h5 k5 f5 ho Htk hc hr hf hg
          go_wp2_with fail
          refine Hsm.out.mono ?_
          rintro e w6 ⟨rfl, q, hw6⟩
          have Hg6 := Lib.hid (show Grow w w6 from by rw [← hw6]; exact Hg5.out.trans (Grow.drewN _ _))
          clear hw6 Hsm
          have Haw := Lib.hid (awake20_any w6)
          go_wp2_with fail
          refine Haw.out.mono ?_
          rintro e w7 ⟨rfl, hg7⟩
          have Hg7 := Lib.hid (Hg6.out.trans hg7)
          clear hg7 Haw
          go_wp2
          go_ret
          exact ⟨rfl, Hg7.out⟩
end Go.Proofs.Ythjnggclemhgkaa
