/-
  The walk of mudlarklaw20's build: a tree's cursor, and its rest. Printed by gen/curbuild.py.
-/
import Derived.Deep.MidRow
import Derived.Deep.CutBlock
import Derived.Deep.CutRange
import Derived.Deep.DeepCutAuto
import Derived.Test.YthjnggclemhgkaaCurPair
import Derived.Test.YthjnggclemhgkaaCurSmall
import Derived.Test.YthjnggclemhgkaaCPlaces
import Derived.Test.YthjnggclemhgkaaRefJoin
namespace Go.Proofs.Ythjnggclemhgkaa
open Go.RowKit CurM
set_option linter.unusedVariables false

/-- what build tells -/
def BuildTo (D : Nat) (w : World) (L : List Int) (e : Ending) (w' : World) : Prop := ∃ v r, e = .returned (.tuple #[v, r]) ∧ PairAt D w.heap.size w' v r L ∧ Grow w w'
set_option maxRecDepth 100000 in
set_option maxHeartbeats 8000000 in
theorem build_step (d : Nat) (IH : ∀ (w : World) (B : Nat) (t : TreeM) (cs : List Value), TreeCells d w B cs t → B ≤ w.heap.size → wt d t ≤ 599 → Calls Try.prog 7 #[.agg cs.toArray] w (BuildTo d w (restOf d t)))
    (w : World) (B : Nat) (t : TreeM) (cs : List Value) (hT : TreeCells (d + 1) w B cs t) (hB : B ≤ w.heap.size) (hw : wt (d + 1) t ≤ 600) :
    Calls Try.prog 7 #[.agg cs.toArray] w (BuildTo (d + 1) w (restOf (d + 1) t)) := by
  have intsTy : AppTy Try.prog 22 3 (.int .i64 0) 1 8 := AppTy.mk' Try.underlying22 (by kernel_rfl) rfl (by decide)
  have vecTy : AppTy Try.prog 43 29 (.pointer none) 1 8 := AppTy.mk' Try.underlying43 (by kernel_rfl) rfl (by decide)
  have rowsTy : AppTy Try.prog 44 22 (.slice none 0 0) 1 24 := AppTy.mk' Try.underlying44 (by kernel_rfl) rfl (by decide)
  have placeTy : AppTy Try.prog 48 50 (.agg #[.int .i64 0, .int .i64 0]) 2 16 := AppTy.mk' Try.underlying48 (by kernel_rfl) rfl (by decide)
  have hwide := hT.wide
  obtain ⟨A1, n1, c1, A2, n2, c2, A3, n3, c3, rfl, q1, q2, q3, i1, i2, i3, hwh, hwr, hws⟩ := hT
  have hkn := wt_kids d t
  have h1l := i1.len
  have h2l := i2.len
  have h3l : t.kids.length = n3 := i3.1
  have hn1 : n1 ≤ 600 := by omega
  have hn2 : n2 ≤ 600 := by omega
  have hn3 : n3 ≤ 600 := by omega
  have Hrl := Lib.hid (show ∀ k ∈ t.kids, (restOf d k).length ≤ 180000 from fun k hk => by
    have h1 := rest_len d k (hwide.2.2.2 k hk)
    have h2 := wt_kid (d := d) hk
    omega)
  have HIH := Lib.hid IH
  have Hw := Lib.hid hw
  have I1 := Lib.hid i1
  have I2 := Lib.hid i2
  have I3 := Lib.hid i3
  have H1l := Lib.hid h1l
  have H2l := Lib.hid h2l
  have H3l := Lib.hid h3l
  have Hwide := Lib.hid hwide
  have Hwr := Lib.hid hwr
  have Hws := Lib.hid hws
  unfold W64 at hwh
  clear IH hw i1 i2 i3 h1l h2l h3l hwide hwr hws hkn
  obtain ⟨W0, hW0⟩ : ∃ W0, w.alloc (.cells #[.int .i64 t.what, .slice A1 n1 c1, .slice A2 n2 c2, .slice A3 n3 c3] 25) = W0 := ⟨_, rfl⟩
  have hg0 : Grow w W0 := by rw [← hW0]; exact Grow.alloc _ _
  have hb0 : Blk W0 w.heap.size 25 #[.int .i64 t.what, .slice A1 n1 c1, .slice A2 n2 c2, .slice A3 n3 c3] := by rw [← hW0]; exact Blk.new _ _ _
  have HzW := Lib.hid (show W0.heap.size = w.heap.size + 1 by rw [← hW0]; simp)
  have Hg0 := Lib.hid hg0
  have Hb0 := Lib.hid hb0
  have hz0 := hb0.lt
  have hc3 := hb0.cell 3
  clear hg0 hb0
  go_enter Try.func7, Try.ntmps7
  go_wp2
  try rw [hW0]
  clear hW0
  go_loopw [4, 5, 6] (fun v4 v5 v6 wr => ∃ (k : Nat) (ks : List Kid) (rv : List Value) (x4 x5 : Value), k ≤ n3 ∧ v6 = .int .i64 (k : Int) ∧ x4 = v4 ∧ x5 = v5 ∧ Hid (BInv d (w.heap.size + 1) t.kids k k x4 x5 ks rv wr) ∧ Hid (Grow W0 wr)) (fun _ _ v6 _ => n3 - (intOf v6).toNat)
  case atStart => exact ⟨0, [], [], _, _, by omega, rfl, rfl, rfl, BInv.start _ _ _ _, Grow.refl _⟩
  case round =>
    clear hc3
    obtain ⟨k, ks, rv, x4, x5, hk, rfl, rfl, rfl, hI, hg⟩ := hrel
    have hb1 := Grow.blk hg.out Hb0.out
    have hc3 := hb1.cell 3
    by_cases hlt : k < n3
    · have d1 : decide ((k : Int) < (n3 : Int)) = true := decide_eq_true (by omega)
      obtain ⟨u, hu⟩ : ∃ u, t.kids[k]? = some u := ⟨_, List.getElem?_eq_getElem (by rw [H3l.out]; exact hlt)⟩
      obtain ⟨b, off, hA, hbB, hcs⟩ := I3.out.2 (by omega : 0 < n3)
      obtain ⟨cs, hl, hu2, hcu⟩ := hcs k u hu
      obtain ⟨y0, y1, y2, y3, rfl⟩ : ∃ a b c d, cs = [a, b, c, d] := by
        match cs, hl with
        | [a, b, c, d], _ => exact ⟨a, b, c, d, rfl⟩
      have hwr0 : Grow w wr := Hg0.out.trans hg.out
      have hce : ∀ i y, [y0, y1, y2, y3][i]? = some y → wr.cell? ⟨b, off + k * 4 + i, none⟩ = some y := fun i y hy => (hwr0.cell (p := ⟨b, off + k * 4 + i, none⟩) (by show b < w.heap.size; omega)).trans (hcu i y hy)
      have Hrng := Lib.hid (show wr.rangeAt b (off + k * 4) [y0, y1, y2, y3] from fun j y hy => hce j y hy)
      have Hcall := Lib.hid (HIH.out wr B u [y0, y1, y2, y3] (hu2.below (Below.mono hwr0 hB)) (Nat.le_trans hB hwr0.size) (by have := wt_kid (d := d) (List.mem_of_getElem? hu); have := Hw.out; omega))
      have Hu := Lib.hid hu
      have HB := Lib.hid (show w.heap.size + 1 ≤ wr.heap.size by have := hg.out.size; omega)
      subst hA
      clear hce hcs hcu hl hu2 hu hwr0 hb1
      go_wp2_with (refine wpList_load_mid rfl 25 (.tmp 27) rfl b (off + k * 4) rfl _ _ Hrng.out Try.underlying25 rfl (by kernel_rfl) ?_)
      refine Hcall.out.mono ?_
      rintro e w2 ⟨v, r, rfl, hp, hg2⟩
      obtain ⟨p, A9, c9, rfl, rfl⟩ := hp.vals
      have hI2 := hI.out.grow hg2
      have ho4 := own_below hI2.own4 (Grow.alloc w2 (.cells #[.pointer p] 29))
      have hr4 := ReadsAt.made1 w2 29 (.pointer p)
      have hg3 := Grow.alloc w2 (.cells #[.pointer p] 29)
      have Ho4 := Lib.hid ho4
      have Hr4 := Lib.hid hr4
      have hz2 := hg2.size
      have hz3 := hg3.size
      have Hp := Lib.hid hp
      have Hg2 := Lib.hid hg2
      have Hg3 := Lib.hid hg3
      have G1 := Lib.hid (show k + 1 ≤ maxLen by unfold maxLen; omega)
      have G2 := Lib.hid (show (k + 1) * 8 ≤ 140737488355328 by omega)
      have G3 := Lib.hid (show w.heap.size + 1 ≤ (w2.alloc (.cells #[.pointer p] 29)).heap.size from Nat.le_trans HB.out (Nat.le_trans hz2 hz3))
      have G5 := Lib.hid (show (k + 1) * 24 ≤ 140737488355328 by omega)
      clear hp hg2 hg3 ho4 hr4 hI2 Hcall
      go_wp2_with (at_builtin; first | (refine wpList_append_reads _ rfl (.tmp 32) (.tmp 34) rfl vecTy rfl Ho4.out rfl Hr4.out (by simp [Value.oneCell']) G1.out G2.out G3.out ?_; intro v4' w4 ho hgr hat; obtain ⟨F, hI4, A, n, c, er, hv4⟩ := hI.out.push4 Hu.out Hg2.out HB.out Hp.out Hg3.out ho hgr hat; injection er with er1 er2 er3; subst er1 er2 er3; have Hz4 := Lib.hid (Nat.le_trans hz3 hgr.size); have HK4 := Lib.hid ((Keep.grow Hg2.out).trans' ((Keep.grow Hg3.out).trans' (Keep.grown hgr))); have HI4 := Lib.hid hI4; have Hv4 := Lib.hid hv4; have Ho5 := Lib.hid (own_below hI4.own5 (Grow.alloc w4 (.cells #[.slice A9 (restOf d u).length c9] 22))); have Hr5 := Lib.hid (ReadsAt.made1 w4 22 (.slice A9 (restOf d u).length c9)); have Hg5 := Lib.hid (Grow.alloc w4 (.cells #[.slice A9 (restOf d u).length c9] 22)); have G4 := Lib.hid (show w.heap.size + 1 ≤ (w4.alloc (.cells #[.slice A9 (restOf d u).length c9] 22)).heap.size from Nat.le_trans HB.out (Nat.le_trans (Nat.le_trans hz2 Hz4.out) Hg5.out.size)); clear ho hgr hat hI4 hv4) | (refine wpList_append_reads _ rfl (.tmp 36) (.tmp 38) rfl rowsTy rfl Ho5.out rfl Hr5.out (by simp [Value.oneCell']) G1.out G5.out G4.out ?_; intro v5' w6 ho hgr hat; have HI6 := Lib.hid (HI4.out.push5 Hu.out Hv4.out Hg5.out ho hgr hat); have HK6 := Lib.hid ((Keep.grow Hg5.out).trans' (Keep.grown hgr)); clear ho hgr hat))
      have hgN : Grow W0 w6 := by
        have h1 : Below W0.heap.size wr w4 := HK4.out.below (fun j hj => by have := (hI.out.own4.lt j hj).1; have := HzW.out; omega) hg.out.size
        have h2 : Below W0.heap.size w4 w6 := HK6.out.below (fun j hj => by have := (HI4.out.own5.lt j hj).1; have := HzW.out; omega) (Nat.le_trans hg.out.size HK4.out.size)
        exact Below.trans (Below.trans hg.out h1) h2
      have HgN := Lib.hid hgN
      clear hgN
      go_roundw
      case rel => exact ⟨k + 1, _, _, v4', v5', by omega, by go_num, rfl, rfl, HI6, HgN⟩
      case measure => simp [intOf]; omega
    · obtain rfl : k = n3 := by omega
      have d1 : decide ((k : Int) < (k : Int)) = false := decide_eq_false (by omega)
      have hcW := hb1.cell 0
      have hc1 := hb1.cell 1
      have hc2 := hb1.cell 2
      have hzr := hg.out.size
      have Hgr := Lib.hid (Hg0.out.trans hg.out)
      have HzB := Lib.hid (show w.heap.size + 1 ≤ wr.heap.size by have := HzW.out; omega)
      have Hb1 := Lib.hid hb1
      obtain ⟨A4, cc4, e4, -, -, -⟩ := own_reads hI.out.own4
      subst e4
      obtain ⟨A5, cc5, e5, -, -, -⟩ := own_reads hI.out.own5
      subst e5
      clear hb1 hg
      have HOf := Lib.hid (show ∀ w3, Grow wr w3 → Calls Try.prog 12 #[.slice A1 n1 c1] w3 (CurNew (d + 1) w3 (fun _ => False) (rowL t.row)) from fun w3 hg3 => cOf_any d w3 B A1 n1 c1 t.row (I1.out.below (Below.mono (Hgr.out.trans hg3) hB)) (Nat.le_trans hB (Hgr.out.trans hg3).size) (by omega) Hwr.out)
      have HRow := Lib.hid (show ∀ w3, Grow wr w3 → Calls Try.prog 15 #[.slice A1 n1 c1] w3 (RefNew w3 (rowL t.row)) from fun w3 hg3 => refRow_any w3 B A1 n1 c1 t.row (I1.out.below (Below.mono (Hgr.out.trans hg3) hB)) (Nat.le_trans hB (Hgr.out.trans hg3).size) (by omega))
      have HcC := Lib.hid (show ∀ w3, Keep (fun _ => False) wr w3 → w3.cell? ⟨w.heap.size, 1, none⟩ = some (.slice A1 n1 c1) from fun w3 hk => (hk.blk Hb1.out (fun h => h)).cell 1)
      go_wp2_with fail
      refine wp_region_stages (by kernel_rfl) ?_
      refine anyOrder_start [2, 5, 6, 7] (Keep (fun _ => False)) (pairW (d + 1) (w.heap.size + 1) wr (rowL t.row)) (FactsOn [.is (.pointer (some ⟨w.heap.size, 1, none⟩)), .is (.slice A1 n1 c1), .any, .is (.pointer (some ⟨w.heap.size, 1, none⟩)), .is (.slice A1 n1 c1), .any, .any, .any]) (fun i => 99) keep_trans keep_grow (pairW.grow) (factsOn_mono _) (by kernel_rfl) (by kernel_rfl) (Grow.refl _) ?_ ?_
      · refine ⟨?_, ?_, ?_, ?_, ?_, ?_, ?_, ?_, trivial⟩
        · refine stageOf_free rfl (fun _ _ _ _ _ _ => wanted_none rfl) ?_
          intro us vals w3 a' ha hle hW hd hv K hK
          have q1 : a'.tmps[1]? = some (.pointer (some ⟨w.heap.size, 0, none⟩)) := slot_old ha (by kernel_rfl) (by kernel_rfl)
          refine step_value (v := .pointer (some ⟨w.heap.size, 1, none⟩)) (w2 := w3) ?_ (hK _ _ (Grow.refl _) rfl)
          go_simp
        · refine stageOf_free rfl (fun _ _ _ _ _ _ => wanted_none rfl) ?_
          intro us vals w3 a' ha hle hW hd hv K hK
          obtain ⟨d0, _⟩ := hd
          have q40 : a'.tmps[40]? = some (us 0) := slot_get ha 0 (by kernel_rfl) (by kernel_rfl)
          rw [show us 0 = .pointer (some ⟨w.heap.size, 1, none⟩) from d0] at q40
          have hc := HcC.out w3 hle
          refine step_value (v := .slice A1 n1 c1) (w2 := w3) ?_ (hK _ _ (Grow.refl _) rfl)
          go_simp
        · refine stageOf_mem (t := 0) rfl ?_
          intro us vals w3 a' ha hle hW hd hv
          obtain ⟨d1, _⟩ := hd
          obtain rfl := List.eq_nil_of_length_eq_zero (Nat.le_zero.1 (show vals.length ≤ 0 from Nat.le_of_eq hv))
          refine ⟨wanted_none rfl, fun K hK => ?_⟩
          have q41 : a'.tmps[41]? = some (us 1) := slot_get ha 1 (by kernel_rfl) (by kernel_rfl)
          rw [show us 1 = .slice A1 n1 c1 from d1] at q41
          refine step_call (f := 12) (args := #[.slice A1 n1 c1]) (by go_simp) ?_
          refine (HOf.out w3 hW).mono ?_
          rintro e w4 ⟨v, F, rfl, hc4, hf4, hg4⟩
          exact ⟨_, rfl, hK _ _ (Keep.grow hg4) ⟨⟨F, hc4, fun j hj => by rcases hf4 j hj with h9 | h9; exact h9.elim; have := HzB.out; have := (show Grow wr w3 from hW).size; omega⟩, Grow.trans hW hg4⟩⟩
        · refine stageOf_free rfl (fun _ _ _ _ _ _ => wanted_none rfl) ?_
          intro us vals w3 a' ha hle hW hd hv K hK
          have q1 : a'.tmps[1]? = some (.pointer (some ⟨w.heap.size, 0, none⟩)) := slot_old ha (by kernel_rfl) (by kernel_rfl)
          refine step_value (v := .pointer (some ⟨w.heap.size, 1, none⟩)) (w2 := w3) ?_ (hK _ _ (Grow.refl _) rfl)
          go_simp
        · refine stageOf_free rfl (fun _ _ _ _ _ _ => wanted_none rfl) ?_
          intro us vals w3 a' ha hle hW hd hv K hK
          obtain ⟨d3, _⟩ := hd
          have q43 : a'.tmps[43]? = some (us 3) := slot_get ha 3 (by kernel_rfl) (by kernel_rfl)
          rw [show us 3 = .pointer (some ⟨w.heap.size, 1, none⟩) from d3] at q43
          have hc := HcC.out w3 hle
          refine step_value (v := .slice A1 n1 c1) (w2 := w3) ?_ (hK _ _ (Grow.refl _) rfl)
          go_simp
        · refine stageOf_mem (t := 1) rfl ?_
          intro us vals w3 a' ha hle hW hd hv
          obtain ⟨d4, _, _⟩ := hd
          obtain ⟨x0, rfl⟩ := List.length_eq_one_iff.1 hv
          refine ⟨wanted_none rfl, fun K hK => ?_⟩
          have q44 : a'.tmps[44]? = some (us 4) := slot_get ha 4 (by kernel_rfl) (by kernel_rfl)
          rw [show us 4 = .slice A1 n1 c1 from d4] at q44
          obtain ⟨⟨F, hc4, hf4⟩, hg4⟩ := hW
          refine step_call (f := 15) (args := #[.slice A1 n1 c1]) (by go_simp) ?_
          refine (HRow.out w3 hg4).mono ?_
          rintro e w4 ⟨r, rfl, ho, hg5⟩
          exact ⟨_, rfl, hK _ _ (Keep.grow hg5) ⟨PairAt.mk hc4 hf4 hg5 ho (by have := HzB.out; have := hg4.size; omega), hg4.trans hg5⟩⟩
        · refine stageOf_mem (t := 2) rfl ?_
          intro us vals w3 a' ha hle hW hd hv
          obtain ⟨d2, _, _, _, _, _⟩ := hd
          refine ⟨wanted_none rfl, fun K hK => ?_⟩
          have q42 : a'.tmps[42]? = some (us 2) := slot_get ha 2 (by kernel_rfl) (by kernel_rfl)
          obtain ⟨x0, x1, rfl⟩ := vlen2 hv
          have e0 : x0 = us 2 := by have h0 : some x0 = some (us 2) := d2; injection h0
          exact step_value (v := us 2) (w2 := w3) (by go_simp) (hK _ _ (Keep.refl _ _) ⟨e0.symm, hW⟩)
        · refine stageOf_mem (t := 3) rfl ?_
          intro us vals w3 a' ha hle hW hd hv
          obtain ⟨d5, _, _, _, _, _, _, _, _, _⟩ := hd
          refine ⟨wanted_none rfl, fun K hK => ?_⟩
          have q45 : a'.tmps[45]? = some (us 5) := slot_get ha 5 (by kernel_rfl) (by kernel_rfl)
          obtain ⟨x0, x1, x2, rfl⟩ := vlen3 hv
          have e1 : x1 = us 5 := by have h0 : some x1 = some (us 5) := d5; injection h0
          exact step_value (v := us 5) (w2 := w3) (by go_simp) (hK _ _ (Keep.refl _ _) ⟨hW.1, e1.symm, hW.2⟩)
      · intro us vals w3 hle hvl hV hvs hf
        obtain ⟨x0, x1, x2, x3, rfl⟩ := vlen4 hvl
        obtain ⟨e6, e7, hP9, hg9⟩ := hV
        have u6 : us 6 = x0 := by
          have h9 := hvs 2 (by simp)
          injection h9 with h9
          rw [← e6]
          exact h9.symm
        have u7 : us 7 = x1 := by
          have h9 := hvs 3 (by simp)
          injection h9 with h9
          rw [← e7]
          exact h9.symm
        obtain ⟨p9, A9, c9, rfl, rfl⟩ := hP9.vals
        obtain ⟨m9, hm9⟩ : ∃ m, m = (rowL t.row).length := ⟨_, rfl⟩
        rw [← hm9] at u7 hP9
        have HP9 := Lib.hid hP9
        have Hg9 := Lib.hid hg9
        have hb9 := Grow.blk hg9 Hb1.out
        have hcW := hb9.cell 0
        have hc1 := hb9.cell 1
        have hz9 := hg9.size
        have Hb9 := Lib.hid hb9
        have Hpair := Lib.hid (pair_any w3 B A1 n1 c1 t.row (I1.out.below (Below.mono (Hgr.out.trans hg9) hB)) (Nat.le_trans hB (Hgr.out.trans hg9).size) (by omega) Hwr.out)
        obtain ⟨pa, hpa⟩ : ∃ x, x = pairA t.row := ⟨_, rfl⟩
        obtain ⟨pb, hpb⟩ : ∃ x, x = pairB t.row := ⟨_, rfl⟩
        have Hpa := Lib.hid hpa
        have Hpb := Lib.hid hpb
        clear e6 e7 hP9 hg9 hle hf hvs HOf HRow HcC hm9 hb9 hpa hpb
        simp only [fills, Act.put, List.setIfInBounds_toArray, List.set_cons_succ, List.set_cons_zero, Nat.reduceAdd, Nat.zero_add, u6, u7]
        clear u6 u7
        go_wp2_with fail
        refine Hpair.out.mono ?_
        rintro e w4 ⟨rfl, hg4⟩
        rw [← Hpa.out, ← Hpb.out]
        have hb4 := Grow.blk hg4 Hb9.out
        have hc0 := hb4.cell 0
        have hc1' := hb4.cell 1
        have hz4 := hg4.size
        have Hg4 := Lib.hid hg4
        have Hb4 := Lib.hid hb4
        clear hg4 hb4 hcW hc1 Hpair
        have hc1 := hc1'
        clear hc1'
        obtain ⟨W4, hW4⟩ : ∃ W : World, W = w4 := ⟨_, rfl⟩
        have HW4 := Lib.hid hW4
        have hzW4 : W4.heap.size = w4.heap.size := by rw [hW4]
        have hzW4a : w.heap.size + 1 ≤ W4.heap.size := by have := HzB.out; omega
        have HzW4 := Lib.hid hzW4
        clear hW4 hzW4
        go_wp2_with fail
        go_loopw [13, 14] (fun v13 v14 wr => ∃ (j : Nat) (v : Value) (xs : List Value), j ≤ n1 ∧ v14 = .int .i64 (j : Int) ∧ v = v13 ∧ Hid (wr.ownsRow W4.heap.size 50 2 v j xs) ∧ Hid (PlaceCs t.row j xs) ∧ Hid (Grow W4 wr)) (fun _ v14 _ => n1 - (intOf v14).toNat)
        case atStart => exact ⟨0, _, [], by omega, rfl, rfl, World.ownsRow_nil _ _ _ _, ⟨rfl, fun j x hj _ => by omega⟩, by rw [HW4.out]; exact Grow.refl _⟩
        case round =>
          clear hc0 hc1
          obtain ⟨j, v, xs, hj, rfl, rfl, ho, hpc, hg⟩ := hrel
          have hb1 := Grow.blk (by rw [← HW4.out]; exact hg.out) Hb4.out
          have hc1 := hb1.cell 1
          have hzr := hg.out.size
          by_cases hlt2 : j < n1
          · have d2 : decide ((j : Int) < (n1 : Int)) = true := decide_eq_true (by omega)
            obtain ⟨x, hx⟩ : ∃ x, t.row[j]? = some x := ⟨_, List.getElem?_eq_getElem (by rw [H1l.out]; exact hlt2)⟩
            obtain ⟨b, off, hA, hbB, hcx⟩ := I1.out.get hx
            have hwr0 : Grow w wr := (Hgr.out.trans Hg9.out).trans (Hg4.out.trans (by rw [← HW4.out]; exact hg.out))
            have hcx2 : wr.cell? ⟨b, off + j, none⟩ = some (.int .i64 x) := (hwr0.cell (p := ⟨b, off + j, none⟩) (by show b < w.heap.size; omega)).trans hcx
            have Hpc := Lib.hid (hpc.out.snoc (y := (j : Int)) hx)
            have hown := own_below ho.out (Grow.alloc wr (.cells #[.int .i64 x, .int .i64 (j : Int)] 50))
            have Hr1 := Lib.hid (ReadsAt.madeP wr 50 2 [.int .i64 x, .int .i64 (j : Int)] rfl)
            have G1 := Lib.hid (show j + 1 ≤ maxLen by unfold maxLen; omega)
            have G2 := Lib.hid (show (j + 1) * 16 ≤ 140737488355328 by omega)
            have G3 := Lib.hid (show W4.heap.size ≤ (wr.alloc (.cells #[.int .i64 x, .int .i64 (j : Int)] 50)).heap.size from Nat.le_trans hzr (Grow.alloc _ _).size)
            subst hA
            clear hx hcx hwr0 hb1
            go_wp2_with (at_builtin; refine wpList_append_reads _ rfl (.tmp 59) (.tmp 67) rfl placeTy rfl hown rfl Hr1.out (by simp [Value.oneCell']) G1.out G2.out G3.out ?_; intro v' w2 hown2 hgr2 hat2)
            have hg2 : Grow W4 w2 := Below.trans (Below.trans hg.out (Below.mono (Grow.alloc wr (.cells #[.int .i64 x, .int .i64 (j : Int)] 50)) hzr)) ((Keep.grown hgr2).below (fun j hj => (hown.lt j hj).1) G3.out)
            have Ho2 := Lib.hid hown2
            have Hg2 := Lib.hid hg2
            clear hgr2 hat2 hown hown2 hg2 hzr
            go_roundw
            case rel => exact ⟨j + 1, _, _, by omega, by go_num, rfl, Ho2, Hpc, Hg2⟩
            case measure => simp [intOf]; omega
          · obtain rfl : j = n1 := by omega
            have d2 : decide ((j : Int) < (j : Int)) = false := decide_eq_false (by omega)
            have hc0 := hb1.cell 0
            obtain ⟨A13, c13, e13, h131, h132, hr13⟩ := own_reads ho.out
            subst e13
            have Hpl := Lib.hid (hpc.out.at_ H1l.out hr13)
            have Hgw := Lib.hid (show Grow w wr from (Hgr.out.trans Hg9.out).trans (Hg4.out.trans (by rw [← HW4.out]; exact hg.out)))
            have HgK := Lib.hid (show Grow w3 wr from Hg4.out.trans (by rw [← HW4.out]; exact hg.out))
            obtain ⟨x, hx⟩ : ∃ x, x = pickI t.what 7 := ⟨_, rfl⟩
            have Hpick := Lib.hid (Pick_any t.what 7 wr hwh.1 hwh.2 (by omega))
            have Hx := Lib.hid hx
            have Hb1 := Lib.hid hb1
            clear hr13 hx hb1 ho hpc hg
            rw [← Hx.out] at Hpick
            go_upto_block 4 with (go_at_call 17; refine Hpick.out.mono ?_; rintro e w' ⟨rfl, rfl⟩)
            have HI := Lib.hid (hI.out.grow (by have h9 := Hg9.out.trans HgK.out; exact h9))
            have hx0 : 0 ≤ x := by rw [Hx.out]; exact pickI_nonneg _ _
            have hx7 : x < 7 := by rw [Hx.out]; exact pickI_lt _ _ (by omega)
            obtain ⟨L0, hL0⟩ : ∃ L0, L0 = restTo t.what t.row (t.kids.map (restOf d)) := ⟨_, rfl⟩
            have HL0 := Lib.hid (show L0 = if x = 1 then spanL pa pb else if x = 3 then meetL (t.kids.map (restOf d)) else if x = 4 then joinL (t.kids.map (restOf d))
                else if x = 5 then (match t.kids.map (restOf d) with
                  | a :: b :: _ => lessL a b
                  | _ => rowL t.row)
                else if x = 6 then [] else rowL t.row by rw [hL0, Hx.out, Hpa.out, Hpb.out]; rfl)
            have HLr := Lib.hid hL0
            have HzK := Lib.hid (show w.heap.size + 1 ≤ wr.heap.size by have := hzr; omega)
            have HPK := Lib.hid (HP9.out.grow HgK.out)
            have Hpab := Lib.hid (pair_span t.row Hwr.out)
            clear hL0 hzr
            go_cut [9, 10] from 72 to 118 (fun v9 v10 wc => ∃ (p : Option Addr) (A : Option Addr) (n c : Nat) (W : World), W = wc ∧ v9 = .pointer p ∧ v10 = .slice A n c ∧ Hid (PairAt (d + 1) (w.heap.size + 1) W (.pointer p) (.slice A n c) L0) ∧ Hid (Grow wr W))
            case first Jx Kx hJx hMx =>
              rcases (show x = 0 ∨ x = 1 ∨ x = 2 ∨ x = 3 ∨ x = 4 ∨ x = 5 ∨ x = 6 by omega) with rfl | rfl | rfl | rfl | rfl | rfl | rfl
              · have HL : Hid (L0 = rowL t.row) := HL0.out
                clear HL0
                go_wp2
                try simp only [Act.put]
                go_meet
                case rel => exact ⟨_, _, _, _, _, rfl, rfl, rfl, by rw [HL.out]; exact HPK, Grow.refl _⟩
              · have HL : Hid (L0 = spanL pa pb) := HL0.out
                clear HL0
                have Hc1 := Lib.hid (cSpan_any d wr pa pb (by rw [Hpa.out]; exact Hpab.out.1) (by rw [Hpb.out]; exact Hpab.out.2.1))
                go_wp2_with fail
                refine Hc1.out.mono ?_
                rintro e w5 ⟨v, F, rfl, h5, f5, g5⟩
                obtain ⟨p5, rfl⟩ := h5.isPtr
                have H5 := Lib.hid h5
                have Hf5 := Lib.hid (show ∀ j, F j → w.heap.size + 1 ≤ j from fun j hj => by
                  rcases f5 j hj with h9 | h9
                  · exact h9.elim
                  · have := HzK.out
                    omega)
                have Hg5 := Lib.hid g5
                have Hc2 := Lib.hid (refSpan_any w5 pa pb (by rw [Hpa.out]; exact Hpab.out.1) (by rw [Hpb.out]; exact Hpab.out.2.1) (by rw [Hpa.out, Hpb.out]; have := Hpab.out.2.2; omega))
                clear h5 f5 g5 Hc1
                go_wp2_with fail
                refine Hc2.out.mono ?_
                rintro e w6 ⟨r, rfl, ho, g6⟩
                have hP := PairAt.mk H5.out Hf5.out g6 ho (Nat.le_trans HzK.out Hg5.out.size)
                obtain ⟨A6, c6, rfl, -, -, -⟩ := own_reads ho
                generalize hm6 : List.length _ = m6 at hP ⊢
                have HP := Lib.hid hP
                have HG := Lib.hid (Hg5.out.trans g6)
                clear hP g6 ho hm6 Hc2
                go_wp2
                try simp only [Act.put]
                go_meet
                case rel => exact ⟨_, _, _, _, _, rfl, rfl, rfl, by rw [HL.out]; exact HP, HG⟩
              · have HL : Hid (L0 = rowL t.row) := HL0.out
                clear HL0
                have Hc1 := Lib.hid (cPlaces_any d wr wr.heap.size A13 j c13 t.row Hpl.out (Nat.le_refl _) (by omega) Hwr.out)
                go_wp2_with fail
                refine Hc1.out.mono ?_
                rintro e w5 ⟨v, F, rfl, h5, f5, g5⟩
                obtain ⟨p5, rfl⟩ := h5.isPtr
                have H5 := Lib.hid h5
                have Hf5 := Lib.hid (show ∀ j, F j → w.heap.size + 1 ≤ j from fun j hj => by
                  rcases f5 j hj with h9 | h9
                  · exact h9.elim
                  · have := HzK.out
                    omega)
                have Hg5 := Lib.hid g5
                have Hc2 := Lib.hid (refPlaces_any w5 wr.heap.size A13 j c13 t.row (Hpl.out.below Hg5.out) Hg5.out.size (by omega))
                clear h5 f5 g5 Hc1
                go_wp2_with fail
                refine Hc2.out.mono ?_
                rintro e w6 ⟨r, rfl, ho, g6⟩
                have hP := PairAt.mk H5.out Hf5.out g6 ho (Nat.le_trans HzK.out Hg5.out.size)
                obtain ⟨A6, c6, rfl, -, -, -⟩ := own_reads ho
                generalize hm6 : List.length _ = m6 at hP ⊢
                have HP := Lib.hid hP
                have HG := Lib.hid (Hg5.out.trans g6)
                clear hP g6 ho hm6 Hc2
                go_wp2
                try simp only [Act.put]
                go_meet
                case rel => exact ⟨_, _, _, _, _, rfl, rfl, rfl, by rw [HL.out]; exact HP, HG⟩
              · have HL : Hid (L0 = meetL (t.kids.map (restOf d))) := HL0.out
                clear HL0
                obtain ⟨A', c', e', -, -, hr4⟩ := own_reads HI.out.own4
                injection e' with e1 e2 e3
                subst e1 e3
                have Hr4 := Lib.hid hr4
                have HI2 : BInv d (w.heap.size + 1) t.kids t.kids.length t.kids.length (.slice A4 k cc4) (.slice A5 k cc5) ks rv wr := by rw [H3l.out]; exact HI.out
                obtain ⟨A'5, c'5, e5, hir⟩ := HI2.irows (fun u hu => Nat.le_trans (Hrl.out u hu) (by omega))
                injection e5 with e1 e2 e3
                subst e1 e3
                clear e2
                have Hir := Lib.hid hir
                have Hkl := Lib.hid (show ks.map (·.l) = t.kids.map (restOf d) by rw [HI2.ls, List.take_length])
                have Hge := Lib.hid HI2.ge
                clear hr4 hir HI2
                have Hc1 := Lib.hid (show Calls Try.prog 13 #[.slice A4 k cc4] wr (CurNew (d + 1) wr (fun j => ∃ q ∈ ks, q.f j) (meetL (t.kids.map (restOf d)))) from by rw [← Hkl.out]; exact cMeet_any wr (fun j => ∃ q ∈ ks, q.f j) wr.heap.size A4 k cc4 ks Hr4.out (Nat.le_refl _) (by omega) HI.out.kidsAt)
                go_wp2_with fail
                refine Hc1.out.mono ?_
                rintro e w5 ⟨v, F, rfl, h5, f5, g5⟩
                obtain ⟨p5, rfl⟩ := h5.isPtr
                have H5 := Lib.hid h5
                have Hf5 := Lib.hid (show ∀ j, F j → w.heap.size + 1 ≤ j from fun j hj => by
                  rcases f5 j hj with h9 | h9
                  · obtain ⟨q, hq, hf⟩ := h9; exact Hge.out q hq j hf
                  · have := HzK.out
                    omega)
                have Hg5 := Lib.hid g5
                have Hc2 := Lib.hid (show Calls Try.prog 22 #[.slice A5 k cc5] w5 (RefNew w5 (meetL (t.kids.map (restOf d)))) from refMeet_any w5 wr.heap.size A5 k cc5 (t.kids.map (restOf d)) (by have h9 := Hir.out.below Hg5.out; rw [H3l.out] at h9; exact h9) Hg5.out.size (by omega))
                clear h5 f5 g5 Hc1
                go_wp2_with fail
                refine Hc2.out.mono ?_
                rintro e w6 ⟨r, rfl, ho, g6⟩
                have hP := PairAt.mk H5.out Hf5.out g6 ho (Nat.le_trans HzK.out Hg5.out.size)
                obtain ⟨A6, c6, rfl, -, -, -⟩ := own_reads ho
                generalize hm6 : List.length _ = m6 at hP ⊢
                have HP := Lib.hid hP
                have HG := Lib.hid (Hg5.out.trans g6)
                clear hP g6 ho hm6 Hc2
                go_wp2
                try simp only [Act.put]
                go_meet
                case rel => exact ⟨_, _, _, _, _, rfl, rfl, rfl, by rw [HL.out]; exact HP, HG⟩
              · have HL : Hid (L0 = joinL (t.kids.map (restOf d))) := HL0.out
                clear HL0
                obtain ⟨A', c', e', -, -, hr4⟩ := own_reads HI.out.own4
                injection e' with e1 e2 e3
                subst e1 e3
                have Hr4 := Lib.hid hr4
                have HI2 : BInv d (w.heap.size + 1) t.kids t.kids.length t.kids.length (.slice A4 k cc4) (.slice A5 k cc5) ks rv wr := by rw [H3l.out]; exact HI.out
                obtain ⟨A'5, c'5, e5, hir⟩ := HI2.irows (fun u hu => Nat.le_trans (Hrl.out u hu) (by omega))
                injection e5 with e1 e2 e3
                subst e1 e3
                clear e2
                have Hir := Lib.hid hir
                have Hkl := Lib.hid (show ks.map (·.l) = t.kids.map (restOf d) by rw [HI2.ls, List.take_length])
                have Hge := Lib.hid HI2.ge
                clear hr4 hir HI2
                have Htot := Lib.hid (show ∀ i, ((t.kids.map (restOf d)).take i).flatten.length ≤ 17592186044416 from fun i => by
                  have h9 := flat_len (m := 180000) ((t.kids.map (restOf d)).take i) fun l hl => by
                    obtain ⟨u, hu, rfl⟩ := List.mem_map.1 (List.mem_of_mem_take hl)
                    exact Hrl.out u hu
                  have h8 : ((t.kids.map (restOf d)).take i).length ≤ k := by
                    rw [List.length_take, List.length_map, H3l.out]
                    exact Nat.min_le_right _ _
                  omega)
                have Hc1 := Lib.hid (show Calls Try.prog 23 #[.slice A4 k cc4] wr (CurNew (d + 1) wr (fun j => ∃ q ∈ ks, q.f j) (joinL (t.kids.map (restOf d)))) from by rw [← Hkl.out]; exact cJoin_any wr (fun j => ∃ q ∈ ks, q.f j) wr.heap.size A4 k cc4 ks Hr4.out (Nat.le_refl _) (by omega) HI.out.kidsAt)
                go_wp2_with fail
                refine Hc1.out.mono ?_
                rintro e w5 ⟨v, F, rfl, h5, f5, g5⟩
                obtain ⟨p5, rfl⟩ := h5.isPtr
                have H5 := Lib.hid h5
                have Hf5 := Lib.hid (show ∀ j, F j → w.heap.size + 1 ≤ j from fun j hj => by
                  rcases f5 j hj with h9 | h9
                  · obtain ⟨q, hq, hf⟩ := h9; exact Hge.out q hq j hf
                  · have := HzK.out
                    omega)
                have Hg5 := Lib.hid g5
                have Hc2 := Lib.hid (show Calls Try.prog 24 #[.slice A5 k cc5] w5 (RefNew w5 (joinL (t.kids.map (restOf d)))) from refJoin_any w5 wr.heap.size A5 k cc5 (t.kids.map (restOf d)) (by have h9 := Hir.out.below Hg5.out; rw [H3l.out] at h9; exact h9) Hg5.out.size (by omega) Htot.out)
                clear h5 f5 g5 Hc1
                go_wp2_with fail
                refine Hc2.out.mono ?_
                rintro e w6 ⟨r, rfl, ho, g6⟩
                have hP := PairAt.mk H5.out Hf5.out g6 ho (Nat.le_trans HzK.out Hg5.out.size)
                obtain ⟨A6, c6, rfl, -, -, -⟩ := own_reads ho
                generalize hm6 : List.length _ = m6 at hP ⊢
                have HP := Lib.hid hP
                have HG := Lib.hid (Hg5.out.trans g6)
                clear hP g6 ho hm6 Hc2
                go_wp2
                try simp only [Act.put]
                go_meet
                case rel => exact ⟨_, _, _, _, _, rfl, rfl, rfl, by rw [HL.out]; exact HP, HG⟩
              · by_cases hk2 : 1 < k
                · have d5 : decide ((1 : Int) < (k : Int)) = true := decide_eq_true (by omega)
                  obtain ⟨u0, u1, ur, hku⟩ : ∃ u0 u1 ur, t.kids = u0 :: u1 :: ur := by
                    have h9 := H3l.out
                    match t.kids, h9 with
                    | a :: b :: r, _ => exact ⟨a, b, r, rfl⟩
                    | [a], h9 => simp at h9; omega
                    | [], h9 => simp at h9; omega
                  obtain ⟨a0, a1, ar, rfl⟩ : ∃ a b r, ks = a :: b :: r := by
                    have h9 := HI.out.len4
                    match ks, h9 with
                    | a :: b :: r, _ => exact ⟨a, b, r, rfl⟩
                    | [a], h9 => simp at h9; omega
                    | [], h9 => simp at h9; omega
                  have hls := HI.out.ls
                  rw [List.take_of_length_le (by rw [H3l.out]; exact Nat.le_refl _), hku] at hls
                  simp only [List.map_cons, List.cons.injEq] at hls
                  obtain ⟨hl0, hl1, -⟩ := hls
                  have HL : Hid (L0 = lessL (restOf d u0) (restOf d u1)) := by
                    have h9 := HL0.out
                    rw [hku] at h9
                    exact h9
                  have hm0 : a0 ∈ a0 :: a1 :: ar := by simp
                  have hm1 : a1 ∈ a0 :: a1 :: ar := by simp
                  obtain ⟨p0, hp0⟩ := (HI.out.each a0 hm0).isPtr
                  obtain ⟨p1, hp1⟩ := (HI.out.each a1 hm1).isPtr
                  obtain ⟨A', c', e', -, -, hr4⟩ := own_reads HI.out.own4
                  injection e' with e1 e2 e3
                  subst e1 e3
                  obtain ⟨b4, o4, rfl, hb4, hc4⟩ := hr4.2 (by omega)
                  obtain ⟨A', c', e', -, -, hr5⟩ := own_reads HI.out.own5
                  injection e' with e1 e2 e3
                  subst e1 e3
                  obtain ⟨b5, o5, rfl, hb5, hc5⟩ := hr5.2 (by omega)
                  obtain ⟨z0, z1, zr, hzr9⟩ : ∃ a b r, rv = a :: b :: r := by
                    have h9 := HI.out.len5
                    match rv, h9 with
                    | a :: b :: r, _ => exact ⟨a, b, r, rfl⟩
                    | [a], h9 => simp at h9; omega
                    | [], h9 => simp at h9; omega
                  subst hzr9
                  obtain ⟨B0, m0, d0, t0, rfl, ht0, hv0⟩ := HI.out.rows 0 z0 rfl
                  obtain ⟨B1, m1, e1', t1, rfl, ht1, hv1⟩ := HI.out.rows 1 z1 rfl
                  rw [hku] at ht0 ht1
                  injection ht0 with ht0
                  injection ht1 with ht1
                  subst ht0 ht1
                  have hn0 := hv0.ints.len
                  have hn9 := hv1.ints.len
                  have hb0 := Hrl.out u0 (by rw [hku]; simp)
                  have hb9 := Hrl.out u1 (by rw [hku]; simp)
                  have Hv0 := Lib.hid (show ∀ w3, Keep (fun _ => False) wr w3 → w3.cell? ⟨b4, o4, none⟩ = some (.pointer p0) from fun w3 hk9 => (hk9.cell (p := ⟨b4, o4, none⟩) hb4 (fun h => h)).trans (by rw [← hp0]; exact hc4 0 _ rfl))
                  have Hv1 := Lib.hid (show ∀ w3, Keep (fun _ => False) wr w3 → w3.cell? ⟨b4, o4 + 1, none⟩ = some (.pointer p1) from fun w3 hk9 => (hk9.cell (p := ⟨b4, o4 + 1, none⟩) hb4 (fun h => h)).trans (by rw [← hp1]; exact hc4 1 _ rfl))
                  have Hr0 := Lib.hid (show ∀ w3, Keep (fun _ => False) wr w3 → w3.cell? ⟨b5, o5, none⟩ = some (.slice B0 m0 d0) from fun w3 hk9 => (hk9.cell (p := ⟨b5, o5, none⟩) hb5 (fun h => h)).trans (hc5 0 _ rfl))
                  have Hr1 := Lib.hid (show ∀ w3, Keep (fun _ => False) wr w3 → w3.cell? ⟨b5, o5 + 1, none⟩ = some (.slice B1 m1 e1') from fun w3 hk9 => (hk9.cell (p := ⟨b5, o5 + 1, none⟩) hb5 (fun h => h)).trans (hc5 1 _ rfl))
                  have Hcl := Lib.hid (show ∀ w3, Grow wr w3 → Calls Try.prog 14 #[.pointer p0, .pointer p1] w3 (CurNew (d + 1) w3 (fun j => w.heap.size + 1 ≤ j) (lessL (restOf d u0) (restOf d u1))) from fun w3 hg9 => by
                    have h9 := cLess_any (d := d) w3 (fun j => w.heap.size + 1 ≤ j) a0 a1 ⟨fun q hq => ?_, fun q hq j hj => ?_, fun i j x y hi hj hne => ?_⟩
                    · rw [hp0, hp1, hl0, hl1] at h9
                      exact h9
                    · have hq2 : q ∈ a0 :: a1 :: ar := by simp only [List.mem_cons, List.not_mem_nil, or_false] at hq ⊢; rcases hq with h | h; exact Or.inl h; exact Or.inr (Or.inl h)
                      exact (HI.out.each q hq2).grow hg9
                    · have hq2 : q ∈ a0 :: a1 :: ar := by simp only [List.mem_cons, List.not_mem_nil, or_false] at hq ⊢; rcases hq with h | h; exact Or.inl h; exact Or.inr (Or.inl h)
                      exact HI.out.ge q hq2 j hj
                    · have up : ∀ (i : Nat) (x : Kid), [a0, a1][i]? = some x → (a0 :: a1 :: ar)[i]? = some x := fun i x hi => by
                        match i, hi with
                        | 0, hi => exact hi
                        | 1, hi => exact hi
                      exact HI.out.apart i j x y (up i x hi) (up j y hj) hne)
                  have Hrl2 := Lib.hid (show ∀ w3, Grow wr w3 → Calls Try.prog 25 #[.slice B0 m0 d0, .slice B1 m1 e1'] w3 (RefNew w3 (lessL (restOf d u0) (restOf d u1))) from fun w3 hg9 => refLess_any w3 wr.heap.size wr.heap.size B0 B1 m0 d0 m1 e1' _ _ (hv0.ints.below hg9) (hv1.ints.below hg9) hg9.size hg9.size (by omega) (by omega))
                  clear hl0 hl1 hku hp0 hp1 hr4 hr5 hc4 hc5 hv0 hv1 hn0 hn9 hb0 hb9 HL0 e2
                  go_upto_region 27 with (fail)
                  refine wp_region_stages (by kernel_rfl) ?_
                  refine anyOrder_start [6, 13, 14, 15] (Keep (fun _ => False)) (pairW (d + 1) (w.heap.size + 1) wr (lessL (restOf d u0) (restOf d u1))) (FactsOn [.is (.slice (some ⟨b4, o4, none⟩) k cc4), .is (.pointer (some ⟨b4, o4, none⟩)), .is (.pointer p0), .is (.slice (some ⟨b4, o4, none⟩) k cc4), .is (.pointer (some ⟨b4, o4 + 1, none⟩)), .is (.pointer p1), .any, .is (.slice (some ⟨b5, o5, none⟩) k cc5), .is (.pointer (some ⟨b5, o5, none⟩)), .is (.slice B0 m0 d0), .is (.slice (some ⟨b5, o5, none⟩) k cc5), .is (.pointer (some ⟨b5, o5 + 1, none⟩)), .is (.slice B1 m1 e1'), .any, .any, .any]) (fun i => 99) keep_trans keep_grow (pairW.grow) (factsOn_mono _) (by kernel_rfl) (by kernel_rfl) (Grow.refl _) ?_ ?_
                  · refine ⟨?_, ?_, ?_, ?_, ?_, ?_, ?_, ?_, ?_, ?_, ?_, ?_, ?_, ?_, ?_, ?_, trivial⟩
                    · refine stageOf_free rfl (fun _ _ _ _ _ _ => wanted_none rfl) ?_
                      intro us vals w3 a' ha hle hW hd hv K hK
                      have q4 : a'.tmps[4]? = some (.slice (some ⟨b4, o4, none⟩) k cc4) := slot_old ha (by kernel_rfl) (by kernel_rfl)
                      exact step_value (w2 := w3) (by go_simp) (hK _ _ (Grow.refl _) rfl)
                    · refine stageOf_free rfl (fun _ _ _ _ _ _ => wanted_none rfl) ?_
                      intro us vals w3 a' ha hle hW hd hv K hK
                      obtain ⟨d0, _⟩ := hd
                      have q103 : a'.tmps[103]? = some (us 0) := slot_get ha 0 (by kernel_rfl) (by kernel_rfl)
                      rw [show us 0 = .slice (some ⟨b4, o4, none⟩) k cc4 from d0] at q103
                      refine step_value (v := .pointer (some ⟨b4, o4, none⟩)) (w2 := w3) ?_ (hK _ _ (Grow.refl _) rfl)
                      go_simp
                      try omega
                    · refine stageOf_free rfl (fun _ _ _ _ _ _ => wanted_none rfl) ?_
                      intro us vals w3 a' ha hle hW hd hv K hK
                      obtain ⟨d1, _⟩ := hd
                      have q104 : a'.tmps[104]? = some (us 1) := slot_get ha 1 (by kernel_rfl) (by kernel_rfl)
                      rw [show us 1 = .pointer (some ⟨b4, o4, none⟩) from d1] at q104
                      have hc := Hv0.out w3 hle
                      refine step_value (v := .pointer p0) (w2 := w3) ?_ (hK _ _ (Grow.refl _) rfl)
                      go_simp
                    · refine stageOf_free rfl (fun _ _ _ _ _ _ => wanted_none rfl) ?_
                      intro us vals w3 a' ha hle hW hd hv K hK
                      have q4 : a'.tmps[4]? = some (.slice (some ⟨b4, o4, none⟩) k cc4) := slot_old ha (by kernel_rfl) (by kernel_rfl)
                      exact step_value (w2 := w3) (by go_simp) (hK _ _ (Grow.refl _) rfl)
                    · refine stageOf_free rfl (fun _ _ _ _ _ _ => wanted_none rfl) ?_
                      intro us vals w3 a' ha hle hW hd hv K hK
                      obtain ⟨d3, _⟩ := hd
                      have q106 : a'.tmps[106]? = some (us 3) := slot_get ha 3 (by kernel_rfl) (by kernel_rfl)
                      rw [show us 3 = .slice (some ⟨b4, o4, none⟩) k cc4 from d3] at q106
                      refine step_value (v := .pointer (some ⟨b4, o4 + 1, none⟩)) (w2 := w3) ?_ (hK _ _ (Grow.refl _) rfl)
                      go_simp
                      try omega
                    · refine stageOf_free rfl (fun _ _ _ _ _ _ => wanted_none rfl) ?_
                      intro us vals w3 a' ha hle hW hd hv K hK
                      obtain ⟨d4, _⟩ := hd
                      have q107 : a'.tmps[107]? = some (us 4) := slot_get ha 4 (by kernel_rfl) (by kernel_rfl)
                      rw [show us 4 = .pointer (some ⟨b4, o4 + 1, none⟩) from d4] at q107
                      have hc := Hv1.out w3 hle
                      refine step_value (v := .pointer p1) (w2 := w3) ?_ (hK _ _ (Grow.refl _) rfl)
                      go_simp
                    · refine stageOf_mem (t := 0) rfl ?_
                      intro us vals w3 a' ha hle hW hd hv
                      obtain ⟨d2, d5, _⟩ := hd
                      obtain rfl := List.eq_nil_of_length_eq_zero (Nat.le_zero.1 (show vals.length ≤ 0 from Nat.le_of_eq hv))
                      refine ⟨wanted_none rfl, fun K hK => ?_⟩
                      have q105 : a'.tmps[105]? = some (us 2) := slot_get ha 2 (by kernel_rfl) (by kernel_rfl)
                      rw [show us 2 = .pointer p0 from d2] at q105
                      have q108 : a'.tmps[108]? = some (us 5) := slot_get ha 5 (by kernel_rfl) (by kernel_rfl)
                      rw [show us 5 = .pointer p1 from d5] at q108
                      refine step_call (f := 14) (args := #[.pointer p0, .pointer p1]) (by go_simp) ?_
                      refine (Hcl.out w3 hW).mono ?_
                      rintro e w4 ⟨v, F, rfl, hc4, hf4, hg4⟩
                      exact ⟨_, rfl, hK _ _ (Keep.grow hg4) ⟨⟨F, hc4, fun j hj => by rcases hf4 j hj with h9 | h9; exact h9; have := HzK.out; have := (show Grow wr w3 from hW).size; omega⟩, Grow.trans hW hg4⟩⟩
                    · refine stageOf_free rfl (fun _ _ _ _ _ _ => wanted_none rfl) ?_
                      intro us vals w3 a' ha hle hW hd hv K hK
                      have q5 : a'.tmps[5]? = some (.slice (some ⟨b5, o5, none⟩) k cc5) := slot_old ha (by kernel_rfl) (by kernel_rfl)
                      exact step_value (w2 := w3) (by go_simp) (hK _ _ (Grow.refl _) rfl)
                    · refine stageOf_free rfl (fun _ _ _ _ _ _ => wanted_none rfl) ?_
                      intro us vals w3 a' ha hle hW hd hv K hK
                      obtain ⟨d7, _⟩ := hd
                      have q110 : a'.tmps[110]? = some (us 7) := slot_get ha 7 (by kernel_rfl) (by kernel_rfl)
                      rw [show us 7 = .slice (some ⟨b5, o5, none⟩) k cc5 from d7] at q110
                      refine step_value (v := .pointer (some ⟨b5, o5, none⟩)) (w2 := w3) ?_ (hK _ _ (Grow.refl _) rfl)
                      go_simp
                      try omega
                    · refine stageOf_free rfl (fun _ _ _ _ _ _ => wanted_none rfl) ?_
                      intro us vals w3 a' ha hle hW hd hv K hK
                      obtain ⟨d8, _⟩ := hd
                      have q111 : a'.tmps[111]? = some (us 8) := slot_get ha 8 (by kernel_rfl) (by kernel_rfl)
                      rw [show us 8 = .pointer (some ⟨b5, o5, none⟩) from d8] at q111
                      have hc := Hr0.out w3 hle
                      refine step_value (v := .slice B0 m0 d0) (w2 := w3) ?_ (hK _ _ (Grow.refl _) rfl)
                      go_simp
                    · refine stageOf_free rfl (fun _ _ _ _ _ _ => wanted_none rfl) ?_
                      intro us vals w3 a' ha hle hW hd hv K hK
                      have q5 : a'.tmps[5]? = some (.slice (some ⟨b5, o5, none⟩) k cc5) := slot_old ha (by kernel_rfl) (by kernel_rfl)
                      exact step_value (w2 := w3) (by go_simp) (hK _ _ (Grow.refl _) rfl)
                    · refine stageOf_free rfl (fun _ _ _ _ _ _ => wanted_none rfl) ?_
                      intro us vals w3 a' ha hle hW hd hv K hK
                      obtain ⟨d10, _⟩ := hd
                      have q113 : a'.tmps[113]? = some (us 10) := slot_get ha 10 (by kernel_rfl) (by kernel_rfl)
                      rw [show us 10 = .slice (some ⟨b5, o5, none⟩) k cc5 from d10] at q113
                      refine step_value (v := .pointer (some ⟨b5, o5 + 1, none⟩)) (w2 := w3) ?_ (hK _ _ (Grow.refl _) rfl)
                      go_simp
                      try omega
                    · refine stageOf_free rfl (fun _ _ _ _ _ _ => wanted_none rfl) ?_
                      intro us vals w3 a' ha hle hW hd hv K hK
                      obtain ⟨d11, _⟩ := hd
                      have q114 : a'.tmps[114]? = some (us 11) := slot_get ha 11 (by kernel_rfl) (by kernel_rfl)
                      rw [show us 11 = .pointer (some ⟨b5, o5 + 1, none⟩) from d11] at q114
                      have hc := Hr1.out w3 hle
                      refine step_value (v := .slice B1 m1 e1') (w2 := w3) ?_ (hK _ _ (Grow.refl _) rfl)
                      go_simp
                    · refine stageOf_mem (t := 1) rfl ?_
                      intro us vals w3 a' ha hle hW hd hv
                      obtain ⟨d9, d12, _, _⟩ := hd
                      obtain ⟨x0, rfl⟩ := List.length_eq_one_iff.1 hv
                      refine ⟨wanted_none rfl, fun K hK => ?_⟩
                      have q112 : a'.tmps[112]? = some (us 9) := slot_get ha 9 (by kernel_rfl) (by kernel_rfl)
                      rw [show us 9 = .slice B0 m0 d0 from d9] at q112
                      have q115 : a'.tmps[115]? = some (us 12) := slot_get ha 12 (by kernel_rfl) (by kernel_rfl)
                      rw [show us 12 = .slice B1 m1 e1' from d12] at q115
                      obtain ⟨⟨F, hc4, hf4⟩, hg4⟩ := hW
                      refine step_call (f := 25) (args := #[.slice B0 m0 d0, .slice B1 m1 e1']) (by go_simp) ?_
                      refine (Hrl2.out w3 hg4).mono ?_
                      rintro e w4 ⟨r, rfl, ho, hg5⟩
                      exact ⟨_, rfl, hK _ _ (Keep.grow hg5) ⟨PairAt.mk hc4 hf4 hg5 ho (by have := HzK.out; have := hg4.size; omega), hg4.trans hg5⟩⟩
                    · refine stageOf_mem (t := 2) rfl ?_
                      intro us vals w3 a' ha hle hW hd hv
                      obtain ⟨d6, _, _, _, _, _, _, _, _, _⟩ := hd
                      refine ⟨wanted_none rfl, fun K hK => ?_⟩
                      have q109 : a'.tmps[109]? = some (us 6) := slot_get ha 6 (by kernel_rfl) (by kernel_rfl)
                      obtain ⟨x0, x1, rfl⟩ := vlen2 hv
                      have e0 : x0 = us 6 := by have h0 : some x0 = some (us 6) := d6; injection h0
                      exact step_value (v := us 6) (w2 := w3) (by go_simp) (hK _ _ (Keep.refl _ _) ⟨e0.symm, hW⟩)
                    · refine stageOf_mem (t := 3) rfl ?_
                      intro us vals w3 a' ha hle hW hd hv
                      obtain ⟨d13, _, _, _, _, _, _, _, _, _, _, _, _, _, _, _, _, _⟩ := hd
                      refine ⟨wanted_none rfl, fun K hK => ?_⟩
                      have q116 : a'.tmps[116]? = some (us 13) := slot_get ha 13 (by kernel_rfl) (by kernel_rfl)
                      obtain ⟨x0, x1, x2, rfl⟩ := vlen3 hv
                      have e1 : x1 = us 13 := by have h0 : some x1 = some (us 13) := d13; injection h0
                      exact step_value (v := us 13) (w2 := w3) (by go_simp) (hK _ _ (Keep.refl _ _) ⟨hW.1, e1.symm, hW.2⟩)
                  · intro us2 vals w5 hle hvl hV hvs hf
                    obtain ⟨x0, x1, x2, x3, rfl⟩ := vlen4 hvl
                    obtain ⟨e6, e7, hP5, hg5⟩ := hV
                    have u14 : us2 14 = x0 := by
                      have h9 := hvs 2 (by simp)
                      injection h9 with h9
                      rw [← e6]
                      exact h9.symm
                    have u15 : us2 15 = x1 := by
                      have h9 := hvs 3 (by simp)
                      injection h9 with h9
                      rw [← e7]
                      exact h9.symm
                    obtain ⟨p5, A6, c6, rfl, rfl⟩ := hP5.vals
                    (try simp only [Exit.inBlock, Exit.then])
                    refine frame_g (R := Kx) ?_
                    intro g hg
                    exact hMx _ _ (Met.intro (hJx _ _ ⟨us2 14, us2 15, g 72, g 73, g 74, g 75, g 76, g 77, g 78, g 79, g 80, g 81, g 82, g 83, g 84, g 85, g 86, g 87, g 88, g 89, g 90, g 91, g 92, g 93, g 94, g 95, g 96, g 97, g 98, g 99, g 100, g 101, g 102, g 103, g 104, g 105, g 106, g 107, g 108, g 109, g 110, g 111, g 112, g 113, g 114, g 115, g 116, g 117, g 118, ⟨_, _, _, _, _, rfl, u14, u15, by rw [HL.out]; exact hP5, hg5⟩, by rw [hg]; kernel_rfl⟩))
                · have d5 : decide ((1 : Int) < (k : Int)) = false := decide_eq_false (by omega)
                  have HL : Hid (L0 = rowL t.row) := by
                    have h9 := HL0.out
                    have h8 := H3l.out
                    match hku : t.kids, h8 with
                    | [], _ => rw [hku] at h9; exact h9
                    | [a], _ => rw [hku] at h9; exact h9
                    | a :: b :: r, h8 => simp only [List.length_cons] at h8; omega
                  clear HL0
                  go_wp2
                  try simp only [Act.put]
                  go_meet
                  case rel => exact ⟨_, _, _, _, _, rfl, rfl, rfl, by rw [HL.out]; exact HPK, Grow.refl _⟩
              · have HL : Hid (L0 = []) := HL0.out
                clear HL0
                go_wp2
                try simp only [Act.put]
                go_meet
                case rel => exact ⟨_, _, _, _, _, rfl, rfl, rfl, by rw [HL.out]; exact PairAt.nil _ _, Grow.refl _⟩
            case rest =>
              obtain ⟨p, A, n, c, W, rfl, rfl, rfl, hP, hg⟩ := hcut
              have hbW := Grow.blk hg.out Hb1.out
              have hc2 := hbW.cell 2
              have HgW := Lib.hid (Hgw.out.trans hg.out)
              have HzW2 := Lib.hid (show w.heap.size + 1 ≤ W.heap.size from Nat.le_trans HzK.out hg.out.size)
              have HbW := Lib.hid hbW
              have HLb := Lib.hid (show L0.length ≤ 1000000 by
                have h1 := restTo_len t.what t.row (t.kids.map (restOf d)) Hwr.out
                have h2 := rests_sum (d := d) t.kids fun k hm => rest_len d k (Hwide.out.2.2.2 k hm)
                have h3 : (t.kids.map (wt d)).sum ≤ wt (d + 1) t := by simp only [wt]; omega
                have h4 := Hw.out
                have h5 := H1l.out
                rw [HLr.out]
                omega)
              clear hbW hg hc0
              go_wp2_with fail
              go_loopw [10, 15] (fun v10 v15 wq => ∃ (i : Nat) (A : Option Addr) (n c : Nat), i ≤ n2 ∧ v15 = .int .i64 (i : Int) ∧ v10 = .slice A n c ∧ Hid (PairAt (d + 1) (w.heap.size + 1) wq (.pointer p) (.slice A n c) ((t.skip.take i).foldl (fun r n => seek n r) L0)) ∧ Hid (Below (w.heap.size + 1) W wq)) (fun _ v15 _ => n2 - (intOf v15).toNat)
              case atStart => exact ⟨0, A, n, c, by omega, rfl, rfl, hP.out, Below.refl _ _⟩
              case round =>
                clear hc2 hP
                obtain ⟨i, A, n, c, hi, rfl, rfl, hP, hg⟩ := hrel
                have hbQ : Blk wr w.heap.size 25 _ := HbW.out.below hg.out (Nat.lt_succ_self _)
                have hc2 := hbQ.cell 2
                by_cases hlt3 : i < n2
                · have d2 : decide ((i : Int) < (n2 : Int)) = true := decide_eq_true (by omega)
                  obtain ⟨y, hy⟩ : ∃ y, t.skip[i]? = some y := ⟨_, List.getElem?_eq_getElem (by rw [H2l.out]; exact hlt3)⟩
                  obtain ⟨b, off, hA, hbB, hcy⟩ := I2.out.get hy
                  have hcy2 : wr.cell? ⟨b, off + i, none⟩ = some (.int .i64 y) := (hg.out.cell (p := ⟨b, off + i, none⟩) (by show b < w.heap.size + 1; omega)).trans ((HgW.out.cell (p := ⟨b, off + i, none⟩) (by show b < w.heap.size; omega)).trans hcy)
                  have hy64 := Hws.out y (List.mem_of_getElem? hy)
                  have Htk := Lib.hid (show (t.skip.take (i + 1)).foldl (fun r n => seek n r) L0 = seek y ((t.skip.take i).foldl (fun r n => seek n r) L0) by
                    rw [List.take_add_one, hy, List.foldl_append]
                    rfl)
                  have Hlb := Lib.hid (show ((t.skip.take i).foldl (fun r n => seek n r) L0).length ≤ 1000000 from Nat.le_trans (seeks_len _ _) HLb.out)
                  obtain ⟨Lc, hLc⟩ : ∃ Lc, Lc = (t.skip.take i).foldl (fun r n => seek n r) L0 := ⟨_, rfl⟩
                  rw [← hLc] at Htk hP Hlb
                  obtain ⟨F, A', n', c', q1', q2', q3', q4'⟩ := hP.out
                  injection q3' with e1 e2 e3
                  subst e1 e2 e3
                  have Hsk := Lib.hid ((curOk (d + 1)).seek wr (.pointer p) Lc F y q1' hy64)
                  have HvQ := Lib.hid q4'
                  have HF := Lib.hid q2'
                  subst hA
                  clear hy hcy hLc q1' q2' q4' hP hbQ hy64
                  go_wp2_with fail
                  refine Hsk.out.mono ?_
                  rintro e w1 ⟨rfl, F1, h1, k1, f1⟩
                  have hv1 : VecAt w1 (fun j => w.heap.size + 1 ≤ j ∧ ¬ F1 j) A n c (Lc.map i64v) := HvQ.out.kept k1 (fun j hj _ => hj.2) fun j hj hlt => ⟨hj.1, fun hF => by
                    rcases f1 j hF with h9 | h9
                    · exact hj.2 h9
                    · omega⟩
                  have hg1 : Below (w.heap.size + 1) W w1 := Below.trans hg.out (k1.below (fun j hj => HF.out j hj) (Nat.le_trans HzW2.out hg.out.size))
                  have hzq := Nat.le_trans HzW2.out hg.out.size
                  have HF1 := Lib.hid (show ∀ j, F1 j → w.heap.size + 1 ≤ j from fun j hj => by
                    rcases f1 j hj with h9 | h9
                    · exact HF.out j h9
                    · omega)
                  have hnl := hv1.ints.len
                  have Hrs := Lib.hid (refSeek_any w1 w1.heap.size A n c Lc y hv1.ints (by have := Hlb.out; omega))
                  have hbQ : Blk w1 w.heap.size 25 _ := HbW.out.below hg1 (Nat.lt_succ_self _)
                  have hcy3 : w1.cell? ⟨b, off + i, none⟩ = some (.int .i64 y) := (hg1.cell (p := ⟨b, off + i, none⟩) (by show b < w.heap.size + 1; omega)).trans ((HgW.out.cell (p := ⟨b, off + i, none⟩) (by show b < w.heap.size; omega)).trans (by
                    have h9 := (HgW.out.cell (p := ⟨b, off + i, none⟩) (by show b < w.heap.size; omega))
                    rw [← h9, ← hg.out.cell (p := ⟨b, off + i, none⟩) (by show b < w.heap.size + 1; omega)]
                    exact hcy2))
                  have Hv1 := Lib.hid hv1
                  have Hg1 := Lib.hid hg1
                  have H1 := Lib.hid h1
                  clear hc2 hcy2 hv1 hg1 hzq hnl h1 k1 f1 Hsk
                  have hc2 := hbQ.cell 2
                  have hcy2 := hcy3
                  clear hcy3 hbQ
                  go_wp2_with fail
                  refine Hrs.out.mono ?_
                  rintro e w2 ⟨k', hk', rfl, hsk, rfl⟩
                  have HPn := Lib.hid (show PairAt (d + 1) (w.heap.size + 1) w1 (.pointer p) (.slice (cutA A c k' 1) (n - k') (c - k')) ((t.skip.take (i + 1)).foldl (fun r n => seek n r) L0) from ⟨F1, _, _, _, by rw [Htk.out]; exact H1.out, HF1.out, rfl, by rw [Htk.out, hsk, List.map_drop]; exact Hv1.out.drop hk'⟩)
                  clear hsk Hrs
                  go_wp2
                  go_roundw
                  case rel => exact ⟨i + 1, _, _, _, by omega, by go_num, rfl, HPn, Hg1⟩
                  case measure => simp [intOf]; omega
                · obtain rfl : i = n2 := by omega
                  have d2 : decide ((i : Int) < (i : Int)) = false := decide_eq_false (by omega)
                  have HPn := Lib.hid (show PairAt (d + 1) w.heap.size wr (.pointer p) (.slice A n c) (restOf (d + 1) t) from by
                    have h9 := hP.out.low (Nat.le_succ w.heap.size)
                    rw [List.take_of_length_le (by rw [H2l.out]; exact Nat.le_refl _), HLr.out] at h9
                    exact h9)
                  have HgF := Lib.hid (show Grow w wr from Below.trans HgW.out (Below.mono hg.out (Nat.le_succ _)))
                  clear hbQ hP hg
                  go_wp2
                  go_ret2
                  exact ⟨_, _, rfl, HPn.out, HgF.out⟩
theorem build_any : ∀ (d : Nat) (w : World) (B : Nat) (t : TreeM) (cs : List Value), TreeCells d w B cs t → B ≤ w.heap.size → wt d t ≤ 599 → Calls Try.prog 7 #[.agg cs.toArray] w (BuildTo d w (restOf d t))
  | 0, w, B, t, cs, _, _, h => by simp [wt] at h
  | d + 1, w, B, t, cs, hT, hB, h => build_step d (build_any d) w B t cs hT hB (by omega)
end Go.Proofs.Ythjnggclemhgkaa
